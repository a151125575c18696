import PyProof.Rows.All
import Wide.All
import OpenK.AllK
import Wide.FinOn
import PySem.Challenge.RW_ui0509_05
open PySem PySem.W PyProof.Rows PySem.Spec PySem.Calls
set_option Elab.async false
set_option maxRecDepth 100000
set_option maxHeartbeats 8000000
namespace Mine
open_top hd for PySem.Challenge.rw_ui0509_05
-- the gcd loop, as plain numbers
theorem gcd_turn {a b : Int} (hb : 0 < b) : Int.gcd b (a.fmod b) = Int.gcd a b := by
  rw [Int.fmod_eq_emod_of_nonneg _ (by omega), Int.gcd_comm a b]
  conv => rhs; rw [← Int.mul_ediv_add_emod a b]
  rw [Int.gcd_mul_left_add_right]
theorem dv_turn {a b : Int} {g : Nat} (hb : b > 0) (h : Int.gcd a b = g) : 0 ≤ b ∧ 0 ≤ a.fmod b ∧ Int.gcd b (a.fmod b) = g :=
  ⟨by omega, by rw [Int.fmod_eq_emod_of_nonneg _ (by omega)]; exact Int.emod_nonneg _ (by omega), by rw [gcd_turn hb]; exact h⟩
theorem dv_less {a b : Int} (hb : b > 0) : (a.fmod b).toNat < b.toNat := by
  have h1 : a.fmod b = a % b := Int.fmod_eq_emod_of_nonneg _ (by omega)
  have h2 := Int.emod_nonneg a (show b ≠ 0 by omega)
  have h3 := Int.emod_lt_of_pos a (show 0 < b by omega)
  omega
theorem dv_end {x y a b : Int} (ha : 0 ≤ a) (hb : 0 ≤ b) (hn : ¬ b > 0) (h : Int.gcd a b = Int.gcd (if x < 0 then -x else x) (if y < 0 then -y else y)) : a = ((Int.gcd x y : Nat) : Int) := by
  have e : b = 0 := by omega
  subst e
  rw [Int.gcd_zero] at h
  have h1 : Int.gcd (if x < 0 then -x else x) (if y < 0 then -y else y) = Int.gcd x y := by
    split <;> split <;> simp
  omega
-- fractions as rationals
theorem num_p {x y g : Int} (h : ¬ y < 0) (h0 : y ≠ 0) (e : g = ((Int.gcd x y : Nat) : Int)) : x.fdiv g = (Rat.divInt x y).num := by
  rw [e, Rat.num_divInt, Int.sign_eq_one_of_pos (by omega), Int.one_mul, Int.gcd_comm, Int.fdiv_eq_ediv_of_nonneg _ (by omega)]
theorem den_p {x y g : Int} (h : ¬ y < 0) (h0 : y ≠ 0) (e : g = ((Int.gcd x y : Nat) : Int)) : y.fdiv g = ((Rat.divInt x y).den : Int) := by
  rw [e, Rat.den_divInt, if_neg (by omega), Int.gcd_comm, Int.fdiv_eq_ediv_of_nonneg _ (by omega), Int.natCast_ediv]
  congr 1
  omega
theorem num_n {x y g : Int} (h : y < 0) (e : g = ((Int.gcd (-x) (-y) : Nat) : Int)) : (-x).fdiv g = (Rat.divInt x y).num := by
  rw [← Rat.neg_divInt_neg]; exact num_p (by omega) (by omega) e
theorem den_n {x y g : Int} (h : y < 0) (e : g = ((Int.gcd (-x) (-y) : Nat) : Int)) : (-y).fdiv g = ((Rat.divInt x y).den : Int) := by
  rw [← Rat.neg_divInt_neg]; exact den_p (by omega) (by omega) e
theorem num_le (u l : Int) : (Rat.divInt u l).num.natAbs ≤ u.natAbs := by
  rw [Rat.num_divInt]
  refine Nat.le_trans (Int.natAbs_ediv_le_natAbs _ _) ?_
  rcases Int.lt_trichotomy l 0 with h | h | h
  · rw [Int.sign_eq_neg_one_of_neg h]; omega
  · subst h; simp
  · rw [Int.sign_eq_one_of_pos h]; omega
theorem den_le {u l : Int} (h : l ≠ 0) : (Rat.divInt u l).den ≤ l.natAbs := by
  rw [Rat.den_divInt, if_neg h]
  exact Nat.div_le_self _ _
theorem r_plus (r q : Rat) : Rat.divInt (r.num * q.den + q.num * r.den) (r.den * q.den) = r + q := by
  rw [Rat.add_def', ← Rat.divInt_ofNat]; rfl
theorem r_minus (r q : Rat) : Rat.divInt (r.num * q.den - q.num * r.den) (r.den * q.den) = r - q := by
  rw [Rat.sub_def', ← Rat.divInt_ofNat]; rfl
theorem r_times (r q : Rat) : Rat.divInt (r.num * q.num) (r.den * q.den) = r * q := by
  rw [Rat.mul_def', ← Rat.divInt_ofNat]; rfl
theorem r_over (r q : Rat) : Rat.divInt (r.num * q.den) (r.den * q.num) = r / q := by
  rw [Rat.div_def, Rat.inv_def]
  conv => rhs; rw [← Rat.num_divInt_den r]
  rw [Rat.divInt_mul_divInt]
theorem r_int (n : Int) : Rat.divInt n 1 = (n : Rat) := by
  rw [Rat.divInt_eq_div]; grind
theorem rat_eq {r q : Rat} : (r.num = q.num ∧ (r.den : Int) = (q.den : Int)) ↔ r = q := by
  constructor
  · rintro ⟨a, b⟩; exact Rat.ext a (by omega)
  · rintro rfl; exact ⟨rfl, rfl⟩
theorem nzmul {a b : Int} (ha : a ≠ 0) (hb : b ≠ 0) : a * b ≠ 0 := Int.mul_ne_zero ha hb
theorem nzden (r : Rat) : (r.den : Int) ≠ 0 := by have := r.den_nz; omega
-- sizes
def Fits (x : Int) : Prop := x.natAbs < 10 ^ 2000
theorem Fits.no {x g M : Int} (h : Fits x) (hg : 0 < g) (hb : x.fdiv g ≥ M) (hM : M = 10 ^ 2000) : False := by
  have h1 : (x.fdiv g).natAbs ≤ x.natAbs := by
    rw [Int.fdiv_eq_ediv_of_nonneg _ (by omega)]
    exact Int.natAbs_ediv_le_natAbs _ _
  have h2 : ((10 ^ 2000 : Nat) : Int) = M := by rw [hM]; simp
  unfold Fits at h
  generalize (10 : Nat) ^ 2000 = P at h h2
  omega
theorem Fits.noA {x g M : Int} (h : Fits x) (hg : 0 < g) (hb : (if x.fdiv g < 0 then -(x.fdiv g) else x.fdiv g) ≥ M) (hM : M = 10 ^ 2000) : False := by
  have h1 : (x.fdiv g).natAbs ≤ x.natAbs := by
    rw [Int.fdiv_eq_ediv_of_nonneg _ (by omega)]
    exact Int.natAbs_ediv_le_natAbs _ _
  have h2 : ((10 ^ 2000 : Nat) : Int) = M := by rw [hM]; simp
  unfold Fits at h
  generalize (10 : Nat) ^ 2000 = P at h h2
  omega
theorem Fits.neg {x : Int} (h : Fits x) : Fits (-x) := by unfold Fits at *; omega
theorem ten_two : (10 : Nat) ^ 2000 < 2 ^ 9000 := by decide +kernel
theorem two_ten : (2 : Nat) ^ 6643 < 10 ^ 2000 := by decide +kernel
theorem Fits.log {x : Int} {n : Nat} (h : Fits x) (h0 : 0 < n) (hn : n ≤ x.natAbs) : (n : Int).natAbs.log2 < 9000 := by
  have e : (n : Int).natAbs = n := by omega
  rw [e]
  refine (Nat.log2_lt (by omega)).mpr ?_
  unfold Fits at h
  have := ten_two
  generalize (10 : Nat) ^ 2000 = P at *
  generalize (2 : Nat) ^ 9000 = R at *
  omega
theorem Fits.of {x : Int} {n : Nat} (h : Builtin.Int.intBits x ≤ n) (hn : n ≤ 6643) : Fits x := by
  have h1 := natAbs_lt_pow_bits x
  have h2 : (2 : Nat) ^ Builtin.Int.intBits x ≤ 2 ^ 6643 := Nat.pow_le_pow_right (by decide) (by omega)
  have h3 := two_ten
  unfold Fits
  generalize (10 : Nat) ^ 2000 = P at *
  generalize (2 : Nat) ^ 6643 = R at *
  omega
theorem bits_num {u l : Int} {n : Nat} (h : Builtin.Int.intBits u ≤ n) : Builtin.Int.intBits (Rat.divInt u l).num ≤ n := bits_of_natAbs_le (num_le u l) h
theorem bits_den {u l : Int} {n : Nat} (h0 : l ≠ 0) (h : Builtin.Int.intBits l ≤ n) : Builtin.Int.intBits ((Rat.divInt u l).den : Int) ≤ n := bits_of_natAbs_le (by have := den_le (u := u) h0; omega) h

-- the calls
abbrev RatO (r : Rat) (t t' : Tok) (c : Nat) : Obj := { cls := .type "tuple", data := .seq #[.int r.num t, .int (r.den : Int) t'] c }
theorem div_c {w : World} {p : Program} {loose : List Str} {mean : ExcName → Option Value} {mg mb : Str → Option Value} (dp un : Nat) (gd : Option (List Code)) (cn : Str) (cs : Scope) (a : Addr) (ccd : Value) (cl : List (Str × Addr)) (outer : List Env) (A₀ : Around) (base h₀ : Heap) (L : Addr) (m : Str → Option Value) (news : List (Addr × Obj)) (s : Shared) (Q E : Value → Shared → Prop) (x y : Int) (t1 t2 : Tok)
    (B : Below A₀ base outer h₀) (F : Fr h₀ L s.heap m) (X : (Mine.hd.heap_39 w.params).In h₀) (N : News h₀ L s.heap news) (T : Top p loose mean mg mb h₀) (hk : cs.kind = .function)
    (hd : dp + 1 < recursionLimit) (hu : un + 8 < cLine)
    (hret : ∀ (t : Tok) (h' : Heap) (tk' : Nat), Fr h₀ L h' m → News h₀ L h' news → Q (.int ((Int.gcd x y : Nat) : Int) t) { s with heap := h', toks := tk' }) :
      wpAny (model PySem.Challenge.rw_ui0509_05.row.prog w) (ktrTop dp un gd cn cs L a ccd cl outer) (call (.ref 42) [.int x t1, .int y t2]) Q E s := by
  revert X; k_fill; intro X
  refine wpAny_call ?_
  k_dflt ktr_enter
  (k_with "exec While Compare cons nil" => k_while_given ["a!", "b!"] (fun a₀ b₀ _ a b => 0 ≤ a ∧ 0 ≤ b ∧ Int.gcd a b = Int.gcd a₀ b₀) (fun _ _ _ _ b => b.toNat) "a" "b")
  (k_with "state" => exact dv_turn (by assumption) (by assumption))
  (k_with "measure" => exact dv_less (by assumption))
  k_steps
  all_goals exact cb_retI hret (dv_end (by assumption) (by assumption) (by assumption) (by assumption)) (by k_asm) (by k_asm)
theorem div_use {w : World} {p : Program} {loose : List Str} {mean : ExcName → Option Value} {mg mb : Str → Option Value} (dp un : Nat) (gd : Option (List Code)) (cn : Str) (cs : Scope) (a : Addr) (ccd : Value) (cl : List (Str × Addr)) (outer : List Env) (A₀ : Around) (base h₀ : Heap) (L : Addr) (m : Str → Option Value) (news : List (Addr × Obj)) (s : Shared) (Q E : Value → Shared → Prop) (x y : Int) (t1 t2 : Tok)
    (B : Below A₀ base outer h₀) (F : Fr h₀ L s.heap m) (X : (Mine.hd.heap_39 w.params).In h₀) (N : News h₀ L s.heap news) (T : Top p loose mean mg mb h₀) (hk : cs.kind = .function)
    (hd : dp + 1 < recursionLimit) (hu : un + 8 < cLine) (hy : y ≠ 0) (hf : Fits y)
    (hret : ∀ (g : Int) (t : Tok) (h' : Heap) (tk' : Nat), 0 < g → g = ((Int.gcd x y : Nat) : Int) → g.natAbs.log2 < 9000 → Fr h₀ L h' m → News h₀ L h' news → Q (.int g t) { s with heap := h', toks := tk' }) :
      wpAny (model PySem.Challenge.rw_ui0509_05.row.prog w) (ktrTop dp un gd cn cs L a ccd cl outer) (call (.ref 42) [.int x t1, .int y t2]) Q E s :=
  div_c dp un gd cn cs a ccd cl outer A₀ base h₀ L m news s Q E x y t1 t2 B F X N T hk hd hu (fun t h' tk' F' N' => hret _ t h' tk' (by have := Int.gcd_pos_of_ne_zero_right x hy; omega) rfl (Fits.log hf (Int.gcd_pos_of_ne_zero_right x hy) (Int.gcd_le_natAbs_right x hy)) F' N')
theorem fr_end {h₀ h' : Heap} {L D : Addr} {m : Str → Option Value} {news : List (Addr × Obj)} {s : Shared} {Q : Value → Shared → Prop} {x y a b : Int} {t t' : Tok} {c tk' : Nat}
    (hret : ∀ (r : Rat) (D : Addr) (t t' : Tok) (c : Nat) (h' : Heap) (tk' : Nat), r = Rat.divInt x y → Fr h₀ L h' m → News h₀ L h' ((D, RatO r t t' c) :: news) → (∀ p ∈ news, p.1 < D) → Q (.ref D) { s with heap := h', toks := tk' })
    (e1 : a = (Rat.divInt x y).num) (e2 : b = ((Rat.divInt x y).den : Int)) (F : Fr h₀ L h' m) (N : News h₀ L h' ((D, ({ cls := .type "tuple", data := .seq #[.int a t, .int b t'] c } : Obj)) :: news)) (hl : ∀ p ∈ news, p.1 < D) : Q (.ref D) { s with heap := h', toks := tk' } := by
  subst e1; subst e2
  exact hret _ D t t' c h' tk' rfl F N hl
local macro_rules | `(tactic| walk_at "call ref") => `(tactic| (k_here; (with_reducible show wpAny _ _ (call (Value.ref 42) [Value.int _ _, Value.int _ _]) _ _ _); k_dflt (refine' div_use _ _ _ _ _ _ _ _ _ _ _ _ _ _ _ _ _ _ _ _ _ _ ?k1 ?k2 ?k3 ?k4 ?k5 ?k6 ?k7 ?k8 ?k9 ?k10 ?_; (case k1 => k_asm); (case k2 => k_asm); (case k3 => k_asm); (case k4 => k_asm); (case k5 => k_asm); (case k6 => first | exact rfl | assumption); (case k7 => ktr_room); (case k8 => ktr_units); (case k9 => omega); (case k10 => first | assumption | exact Fits.neg (by assumption) | exact Fits.of (n := 64) (PySem.intBits_le_64 (by omega) (by omega)) (by decide)); k_whole); intro g' t' h' tk' g0' gE' gL' F' N'; (try k_sweep)))
local macro_rules | `(tactic| walk_at "binaryOp FloorDiv int int") => `(tactic| (with_reducible refine floordiv_int ?ne ?_ (Or.inl (PyProof.noPylong_of_log2 ?lg)); (case lg => with_reducible assumption); (case ne => omega)))
theorem frac_c {w : World} {p : Program} {loose : List Str} {mean : ExcName → Option Value} {mg mb : Str → Option Value} (dp un : Nat) (gd : Option (List Code)) (cn : Str) (cs : Scope) (a : Addr) (ccd : Value) (cl : List (Str × Addr)) (outer : List Env) (A₀ : Around) (base h₀ : Heap) (L : Addr) (m : Str → Option Value) (news : List (Addr × Obj)) (s : Shared) (Q E : Value → Shared → Prop) (x y : Int) (t1 t2 : Tok)
    (B : Below A₀ base outer h₀) (F : Fr h₀ L s.heap m) (X : (Mine.hd.heap_39 w.params).In h₀) (N : News h₀ L s.heap news) (T : Top p loose mean mg mb h₀) (hk : cs.kind = .function)
    (hd : dp + 2 < recursionLimit) (hu : un + 16 < cLine) (hy : y ≠ 0) (hx1 : Fits x) (hy1 : Fits y)
    (hret : ∀ (r : Rat) (D : Addr) (t t' : Tok) (c : Nat) (h' : Heap) (tk' : Nat), r = Rat.divInt x y → Fr h₀ L h' m → News h₀ L h' ((D, RatO r t t' c) :: news) → (∀ p ∈ news, p.1 < D) → Q (.ref D) { s with heap := h', toks := tk' }) :
      wpAny (model PySem.Challenge.rw_ui0509_05.row.prog w) (ktrTop dp un gd cn cs L a ccd cl outer) (call (.ref 50) [.int x t1, .int y t2]) Q E s := by
  revert X; k_fill; intro X
  refine wpAny_call ?_
  k_dflt (refine' code_def ?k1 ?k2 ?k3 ?k4 ?k5 ?kA ?kF ?kK ?k6 ?k7 ?k8 ?k9 ?kB ?_ ?c2 ?c3 ?c4 ?c5; (case kA => exact rfl); (case kF => exact rfl); (case kK => assumption); (case k1 => k_asm); (case k2 => k_asm); (case k3 => k_asm); (case k4 => k_asm); (case k5 => k_asm); (case k6 => k_is); (case k7 => k_is); (case k8 => ktr_room); (case k9 => first | exact BindsTo.of_eq rfl | exact binds_K (by k_in) rfl (by k_is) rfl rfl rfl); (case c5 => decide); (case kB => exact locs rfl); (case c2 => exact rfl); (case c3 => exact rfl); (case c4 => exact rfl); k_whole; intro g' L' h' FG' F' N' B' X' T'; (try dsimp only); (try k_fold))
  k_steps
  all_goals first
    | exact absurd (by assumption) hy
    | exact fr_end hret (num_p (by assumption) hy (by assumption)) (den_p (by assumption) hy (by assumption)) (by k_asm) (by k_asm) (by assumption)
    | exact fr_end hret (num_n (by assumption) (by assumption)) (den_n (by assumption) (by assumption)) (by k_asm) (by k_asm) (by assumption)
    | exact (Fits.no hy1 (by assumption) (by assumption) (by decide +kernel)).elim
    | exact (Fits.no (Fits.neg hy1) (by assumption) (by assumption) (by decide +kernel)).elim
    | exact (Fits.noA hx1 (by assumption) (by assumption) (by decide +kernel)).elim
    | exact (Fits.noA (Fits.neg hx1) (by assumption) (by assumption) (by decide +kernel)).elim
theorem fits_one : Fits 1 := Fits.of (n := 64) (PySem.intBits_le_64 (by omega) (by omega)) (by decide)
theorem fd_end {h₀ h' : Heap} {L D : Addr} {m : Str → Option Value} {news : List (Addr × Obj)} {s : Shared} {Q : Value → Shared → Prop} {x g : Int} {t t' : Tok} {c tk' : Nat}
    (hret : ∀ (D : Addr) (t t' : Tok) (c : Nat) (h' : Heap) (tk' : Nat), Fr h₀ L h' m → News h₀ L h' ((D, ({ cls := .type "tuple", data := .seq #[.int x t, .int 1 t'] c } : Obj)) :: news) → (∀ p ∈ news, p.1 < D) → Q (.ref D) { s with heap := h', toks := tk' })
    (e : g = ((Int.gcd x 1 : Nat) : Int)) (F : Fr h₀ L h' m) (N : News h₀ L h' ((D, ({ cls := .type "tuple", data := .seq #[.int (x.fdiv g) t, .int (Int.fdiv 1 g) t'] c } : Obj)) :: news)) (hl : ∀ p ∈ news, p.1 < D) : Q (.ref D) { s with heap := h', toks := tk' } := by
  have e1 : g = 1 := by rw [e, Int.gcd_one]; rfl
  subst e1
  rw [Int.fdiv_one, Int.fdiv_one] at N
  exact hret D t t' c h' tk' F N hl
theorem frac_d {w : World} {p : Program} {loose : List Str} {mean : ExcName → Option Value} {mg mb : Str → Option Value} (dp un : Nat) (gd : Option (List Code)) (cn : Str) (cs : Scope) (a : Addr) (ccd : Value) (cl : List (Str × Addr)) (outer : List Env) (A₀ : Around) (base h₀ : Heap) (L : Addr) (m : Str → Option Value) (news : List (Addr × Obj)) (s : Shared) (Q E : Value → Shared → Prop) (x : Int) (t1 : Tok)
    (B : Below A₀ base outer h₀) (F : Fr h₀ L s.heap m) (X : (Mine.hd.heap_39 w.params).In h₀) (N : News h₀ L s.heap news) (T : Top p loose mean mg mb h₀) (hk : cs.kind = .function)
    (hd : dp + 2 < recursionLimit) (hu : un + 16 < cLine) (hx1 : Fits x)
    (hret : ∀ (D : Addr) (t t' : Tok) (c : Nat) (h' : Heap) (tk' : Nat), Fr h₀ L h' m → News h₀ L h' ((D, ({ cls := .type "tuple", data := .seq #[.int x t, .int 1 t'] c } : Obj)) :: news) → (∀ p ∈ news, p.1 < D) → Q (.ref D) { s with heap := h', toks := tk' }) :
      wpAny (model PySem.Challenge.rw_ui0509_05.row.prog w) (ktrTop dp un gd cn cs L a ccd cl outer) (call (.ref 50) [.int x t1]) Q E s := by
  revert X; k_fill; intro X
  refine wpAny_call ?_
  k_dflt (refine' code_def ?k1 ?k2 ?k3 ?k4 ?k5 ?kA ?kF ?kK ?k6 ?k7 ?k8 ?k9 ?kB ?_ ?c2 ?c3 ?c4 ?c5; (case kA => exact rfl); (case kF => exact rfl); (case kK => assumption); (case k1 => k_asm); (case k2 => k_asm); (case k3 => k_asm); (case k4 => k_asm); (case k5 => k_asm); (case k6 => k_is); (case k7 => k_is); (case k8 => ktr_room); (case k9 => first | exact BindsTo.of_eq rfl | exact binds_K (by k_in) rfl (by k_is) rfl rfl rfl); (case c5 => decide); (case kB => exact locs rfl); (case c2 => exact rfl); (case c3 => exact rfl); (case c4 => exact rfl); k_whole; intro g' L' h' FG' F' N' B' X' T'; (try dsimp only); (try k_fold))
  k_steps
  all_goals first
    | exact fd_end hret (by assumption) (by k_asm) (by k_asm) (by assumption)
    | exact (Fits.no fits_one (by assumption) (by assumption) (by decide +kernel)).elim
    | exact (Fits.noA hx1 (by assumption) (by assumption) (by decide +kernel)).elim
theorem frac_use {w : World} {p : Program} {loose : List Str} {mean : ExcName → Option Value} {mg mb : Str → Option Value} {dp un : Nat} {gd : Option (List Code)} {cn : Str} {cs : Scope} {a : Addr} {ccd : Value} {cl : List (Str × Addr)} {outer : List Env} {A₀ : Around} {base h₀ : Heap} {L : Addr} {m : Str → Option Value} {news : List (Addr × Obj)} {s : Shared} {Q E : Value → Shared → Prop} {x y : Int} {t1 t2 : Tok} {nx ny : Nat}
    (B : Below A₀ base outer h₀) (F : Fr h₀ L s.heap m) (X : (Mine.hd.heap_39 w.params).In h₀) (N : News h₀ L s.heap news) (T : Top p loose mean mg mb h₀) (hk : cs.kind = .function)
    (hd : dp + 2 < recursionLimit) (hu : un + 16 < cLine) (hy : y ≠ 0) (hx1 : Builtin.Int.intBits x ≤ nx) (hy1 : Builtin.Int.intBits y ≤ ny) (hnx : nx ≤ 6643) (hny : ny ≤ 6643)
    (hret : ∀ (r : Rat) (D : Addr) (t t' : Tok) (c : Nat) (h' : Heap) (tk' : Nat), r = Rat.divInt x y → Builtin.Int.intBits r.num ≤ nx → Builtin.Int.intBits (r.den : Int) ≤ ny → Fr h₀ L h' m → News h₀ L h' ((D, RatO r t t' c) :: news) → (∀ p ∈ news, p.1 < D) → Q (.ref D) { s with heap := h', toks := tk' }) :
      wpAny (model PySem.Challenge.rw_ui0509_05.row.prog w) (ktrTop dp un gd cn cs L a ccd cl outer) (call (.ref 50) [.int x t1, .int y t2]) Q E s :=
  frac_c dp un gd cn cs a ccd cl outer A₀ base h₀ L m news s Q E x y t1 t2 B F X N T hk hd hu hy (Fits.of hx1 hnx) (Fits.of hy1 hny) fun r D t t' c h' tk' e F' N' l => hret r D t t' c h' tk' e (e ▸ bits_num hx1) (e ▸ bits_den hy hy1) F' N' l
theorem r_one_num (x : Int) : (Rat.divInt x 1).num = x := by rw [r_int]; rfl
theorem r_one_den (x : Int) : (Rat.divInt x 1).den = 1 := by rw [r_int]; rfl
theorem frac_one {w : World} {p : Program} {loose : List Str} {mean : ExcName → Option Value} {mg mb : Str → Option Value} {dp un : Nat} {gd : Option (List Code)} {cn : Str} {cs : Scope} {a : Addr} {ccd : Value} {cl : List (Str × Addr)} {outer : List Env} {A₀ : Around} {base h₀ : Heap} {L : Addr} {m : Str → Option Value} {news : List (Addr × Obj)} {s : Shared} {Q E : Value → Shared → Prop} {x : Int} {t1 t2 : Tok} {nx : Nat}
    (B : Below A₀ base outer h₀) (F : Fr h₀ L s.heap m) (X : (Mine.hd.heap_39 w.params).In h₀) (N : News h₀ L s.heap news) (T : Top p loose mean mg mb h₀) (hk : cs.kind = .function)
    (hd : dp + 2 < recursionLimit) (hu : un + 16 < cLine) (hx1 : Builtin.Int.intBits x ≤ nx) (hnx : nx ≤ 6643)
    (hret : ∀ (D : Addr) (t t' : Tok) (c : Nat) (h' : Heap) (tk' : Nat), Fr h₀ L h' m → News h₀ L h' ((D, ({ cls := .type "tuple", data := .seq #[.int x t, .int 1 t'] c } : Obj)) :: news) → (∀ p ∈ news, p.1 < D) → Q (.ref D) { s with heap := h', toks := tk' }) :
      wpAny (model PySem.Challenge.rw_ui0509_05.row.prog w) (ktrTop dp un gd cn cs L a ccd cl outer) (call (.ref 50) [.int x t1, .int 1 t2]) Q E s :=
  frac_c dp un gd cn cs a ccd cl outer A₀ base h₀ L m news s Q E x 1 t1 t2 B F X N T hk hd hu (by decide) (Fits.of hx1 hnx) (Fits.of (n := 64) (PySem.intBits_le_64 (by omega) (by omega)) (by decide)) fun r D t t' c h' tk' e F' N' l => hret D t t' c h' tk' F' (by
    subst e
    unfold RatO at N'
    rw [r_one_num, r_one_den] at N'
    exact N') l
theorem frac_dflt {w : World} {p : Program} {loose : List Str} {mean : ExcName → Option Value} {mg mb : Str → Option Value} {dp un : Nat} {gd : Option (List Code)} {cn : Str} {cs : Scope} {a : Addr} {ccd : Value} {cl : List (Str × Addr)} {outer : List Env} {A₀ : Around} {base h₀ : Heap} {L : Addr} {m : Str → Option Value} {news : List (Addr × Obj)} {s : Shared} {Q E : Value → Shared → Prop} {x : Int} {t1 : Tok} {nx : Nat}
    (B : Below A₀ base outer h₀) (F : Fr h₀ L s.heap m) (X : (Mine.hd.heap_39 w.params).In h₀) (N : News h₀ L s.heap news) (T : Top p loose mean mg mb h₀) (hk : cs.kind = .function)
    (hd : dp + 2 < recursionLimit) (hu : un + 16 < cLine) (hx1 : Builtin.Int.intBits x ≤ nx) (hnx : nx ≤ 6643)
    (hret : ∀ (D : Addr) (t t' : Tok) (c : Nat) (h' : Heap) (tk' : Nat), Fr h₀ L h' m → News h₀ L h' ((D, ({ cls := .type "tuple", data := .seq #[.int x t, .int 1 t'] c } : Obj)) :: news) → (∀ p ∈ news, p.1 < D) → Q (.ref D) { s with heap := h', toks := tk' }) :
      wpAny (model PySem.Challenge.rw_ui0509_05.row.prog w) (ktrTop dp un gd cn cs L a ccd cl outer) (call (.ref 50) [.int x t1]) Q E s :=
  frac_d dp un gd cn cs a ccd cl outer A₀ base h₀ L m news s Q E x t1 B F X N T hk hd hu (Fits.of hx1 hnx) hret
theorem frac_self {w : World} {p : Program} {loose : List Str} {mean : ExcName → Option Value} {mg mb : Str → Option Value} {dp un : Nat} {gd : Option (List Code)} {cn : Str} {cs : Scope} {a : Addr} {ccd : Value} {cl : List (Str × Addr)} {outer : List Env} {A₀ : Around} {base h₀ : Heap} {L : Addr} {m : Str → Option Value} {news : List (Addr × Obj)} {s : Shared} {Q E : Value → Shared → Prop} {r : Rat} {t1 t2 : Tok} {nx ny : Nat}
    (B : Below A₀ base outer h₀) (F : Fr h₀ L s.heap m) (X : (Mine.hd.heap_39 w.params).In h₀) (N : News h₀ L s.heap news) (T : Top p loose mean mg mb h₀) (hk : cs.kind = .function)
    (hd : dp + 2 < recursionLimit) (hu : un + 16 < cLine) (hx1 : Builtin.Int.intBits r.num ≤ nx) (hy1 : Builtin.Int.intBits (r.den : Int) ≤ ny) (hnx : nx ≤ 6643) (hny : ny ≤ 6643)
    (hret : ∀ (D : Addr) (t t' : Tok) (c : Nat) (h' : Heap) (tk' : Nat), Fr h₀ L h' m → News h₀ L h' ((D, RatO r t t' c) :: news) → (∀ p ∈ news, p.1 < D) → Q (.ref D) { s with heap := h', toks := tk' }) :
      wpAny (model PySem.Challenge.rw_ui0509_05.row.prog w) (ktrTop dp un gd cn cs L a ccd cl outer) (call (.ref 50) [.int r.num t1, .int (r.den : Int) t2]) Q E s :=
  frac_c dp un gd cn cs a ccd cl outer A₀ base h₀ L m news s Q E r.num r.den t1 t2 B F X N T hk hd hu (nzden r) (Fits.of hx1 hnx) (Fits.of hy1 hny) fun r' D t t' c h' tk' e F' N' l => hret D t t' c h' tk' F' (by
    rw [Rat.num_divInt_den] at e
    subst e
    exact N') l
theorem cross {r : Rat} {n d : Int} (h : r = Rat.divInt n d) (hd : d ≠ 0) : r.num * d = n * (r.den : Int) := by
  refine (Rat.divInt_eq_divInt_iff (nzden r) hd).mp ?_
  rw [Rat.num_divInt_den]; exact h
theorem no_nought {x n : Int} (h : 1 + x.fmod n = 0) (hn : 0 < n) : False := by
  rw [Int.fmod_eq_emod_of_nonneg x (by omega)] at h
  have := Int.emod_nonneg x (show n ≠ 0 by omega)
  omega
theorem nz_num {c : Rat} {n d : Int} (h0 : c.num = 0) (hc : c = Rat.divInt n d) (hn : n ≠ 0) (hd : d ≠ 0) : False := by
  rw [Rat.num_eq_zero] at h0
  subst hc
  have := Rat.divInt_eq_divInt_iff hd (show (1 : Int) ≠ 0 by decide) (n₁ := n) (n₂ := 0)
  rw [Rat.zero_divInt] at this
  have := this.mp h0
  omega
theorem ok_bool {cl : ClaimW} {ca : Str → Option Addr} {me : ExcName → Option Value} {args : List WData} {s₁ s : Shared} {b : Bool} (h : b = true) (g : GoodW cl ca me args s₁ (.ok (.ret (.bool true))) s) : GoodW cl ca me args s₁ (.ok (.ret (.bool b))) s := h ▸ g
theorem same_rat {r q : Rat} (h : r = q) : (r.num == q.num && (r.den : Int) == (q.den : Int)) = true := by subst h; simp
abbrev T2 (x y : Int) (t t' : Tok) (c : Nat) : Obj := { cls := .type "tuple", data := .seq #[.int x t, .int y t'] c }
section
local macro_rules | `(tactic| walk_at "call ref") => `(tactic| (k_here; (with_reducible show wpAny _ _ (call (Value.ref 50) [Value.int _ _, Value.int _ _]) _ _ _); k_dflt (refine' frac_c _ _ _ _ _ _ _ _ _ _ _ _ _ _ _ _ _ _ _ _ _ _ ?k1 ?k2 ?k3 ?k4 ?k5 ?k6 ?k7 ?k8 ?k9 ?k10 ?k11 ?_; (case k1 => k_asm); (case k2 => k_asm); (case k3 => k_asm); (case k4 => k_asm); (case k5 => k_asm); (case k6 => first | exact rfl | assumption); (case k7 => ktr_room); (case k8 => ktr_units); (case k9 => assumption); (case k10 => assumption); (case k11 => assumption); k_whole); intro r' D' t' u' c' h' tk' rE' F' N' l1; (try k_sweep)))
local macro_rules | `(tactic| walk_at "binaryOp Mult int int") => `(tactic| (with_reducible refine mul_int ?_ ?mo; (case mo => assumption)))
theorem plus_c {w : World} {p : Program} {loose : List Str} {mean : ExcName → Option Value} {mg mb : Str → Option Value} {dp un : Nat} {gd : Option (List Code)} {cn : Str} {cs : Scope} {a : Addr} {ccd : Value} {cl : List (Str × Addr)} {outer : List Env} {A₀ : Around} {base h₀ : Heap} {L : Addr} {m : Str → Option Value} {news : List (Addr × Obj)} {s : Shared} {Q E : Value → Shared → Prop} {D1 D2 : Addr} {x1 y1 x2 y2 : Int} {t1 t1' t2 t2' : Tok} {c1 c2 : Nat}
    (B : Below A₀ base outer h₀) (F : Fr h₀ L s.heap m) (X : (Mine.hd.heap_39 w.params).In h₀) (N : News h₀ L s.heap news) (T : Top p loose mean mg mb h₀) (hk : cs.kind = .function) (e1 : (D1, T2 x1 y1 t1 t1' c1) ∈ news) (e2 : (D2, T2 x2 y2 t2 t2' c2) ∈ news)
    (hd : dp + 3 < recursionLimit) (hu : un + 24 < cLine) (nz : y1 * y2 ≠ 0) (m0 : IntMulOk x1 y2) (m1 : IntMulOk x2 y1) (m2 : IntMulOk y1 y2) (f1 : Fits (x1 * y2 + x2 * y1)) (f2 : Fits (y1 * y2))
    (hret : ∀ (r : Rat) (D : Addr) (t t' : Tok) (c : Nat) (h' : Heap) (tk' : Nat), r = Rat.divInt (x1 * y2 + x2 * y1) (y1 * y2) → Fr h₀ L h' m → News h₀ L h' ((D, RatO r t t' c) :: news) → (∀ p ∈ news, p.1 < D) → Q (.ref D) { s with heap := h', toks := tk' }) :
    wpAny (model PySem.Challenge.rw_ui0509_05.row.prog w) (ktrTop dp un gd cn cs L a ccd cl outer) (call (.ref 65) [.ref D1, .ref D2]) Q E s := by
  revert X; k_fill; intro X
  refine wpAny_call ?_
  k_dflt ktr_enter
  k_steps
  all_goals exact hret _ _ _ _ _ _ _ (by assumption) (by k_asm) (by k_asm) (by assumption)
theorem minus_c {w : World} {p : Program} {loose : List Str} {mean : ExcName → Option Value} {mg mb : Str → Option Value} {dp un : Nat} {gd : Option (List Code)} {cn : Str} {cs : Scope} {a : Addr} {ccd : Value} {cl : List (Str × Addr)} {outer : List Env} {A₀ : Around} {base h₀ : Heap} {L : Addr} {m : Str → Option Value} {news : List (Addr × Obj)} {s : Shared} {Q E : Value → Shared → Prop} {D1 D2 : Addr} {x1 y1 x2 y2 : Int} {t1 t1' t2 t2' : Tok} {c1 c2 : Nat}
    (B : Below A₀ base outer h₀) (F : Fr h₀ L s.heap m) (X : (Mine.hd.heap_39 w.params).In h₀) (N : News h₀ L s.heap news) (T : Top p loose mean mg mb h₀) (hk : cs.kind = .function) (e1 : (D1, T2 x1 y1 t1 t1' c1) ∈ news) (e2 : (D2, T2 x2 y2 t2 t2' c2) ∈ news)
    (hd : dp + 3 < recursionLimit) (hu : un + 24 < cLine) (nz : y1 * y2 ≠ 0) (m0 : IntMulOk x1 y2) (m1 : IntMulOk x2 y1) (m2 : IntMulOk y1 y2) (f1 : Fits (x1 * y2 - x2 * y1)) (f2 : Fits (y1 * y2))
    (hret : ∀ (r : Rat) (D : Addr) (t t' : Tok) (c : Nat) (h' : Heap) (tk' : Nat), r = Rat.divInt (x1 * y2 - x2 * y1) (y1 * y2) → Fr h₀ L h' m → News h₀ L h' ((D, RatO r t t' c) :: news) → (∀ p ∈ news, p.1 < D) → Q (.ref D) { s with heap := h', toks := tk' }) :
    wpAny (model PySem.Challenge.rw_ui0509_05.row.prog w) (ktrTop dp un gd cn cs L a ccd cl outer) (call (.ref 72) [.ref D1, .ref D2]) Q E s := by
  revert X; k_fill; intro X
  refine wpAny_call ?_
  k_dflt ktr_enter
  k_steps
  all_goals exact hret _ _ _ _ _ _ _ (by assumption) (by k_asm) (by k_asm) (by assumption)
theorem times_c {w : World} {p : Program} {loose : List Str} {mean : ExcName → Option Value} {mg mb : Str → Option Value} {dp un : Nat} {gd : Option (List Code)} {cn : Str} {cs : Scope} {a : Addr} {ccd : Value} {cl : List (Str × Addr)} {outer : List Env} {A₀ : Around} {base h₀ : Heap} {L : Addr} {m : Str → Option Value} {news : List (Addr × Obj)} {s : Shared} {Q E : Value → Shared → Prop} {D1 D2 : Addr} {x1 y1 x2 y2 : Int} {t1 t1' t2 t2' : Tok} {c1 c2 : Nat}
    (B : Below A₀ base outer h₀) (F : Fr h₀ L s.heap m) (X : (Mine.hd.heap_39 w.params).In h₀) (N : News h₀ L s.heap news) (T : Top p loose mean mg mb h₀) (hk : cs.kind = .function) (e1 : (D1, T2 x1 y1 t1 t1' c1) ∈ news) (e2 : (D2, T2 x2 y2 t2 t2' c2) ∈ news)
    (hd : dp + 3 < recursionLimit) (hu : un + 24 < cLine) (nz : y1 * y2 ≠ 0) (m0 : IntMulOk x1 x2) (m1 : IntMulOk y1 y2) (f1 : Fits (x1 * x2)) (f2 : Fits (y1 * y2))
    (hret : ∀ (r : Rat) (D : Addr) (t t' : Tok) (c : Nat) (h' : Heap) (tk' : Nat), r = Rat.divInt (x1 * x2) (y1 * y2) → Fr h₀ L h' m → News h₀ L h' ((D, RatO r t t' c) :: news) → (∀ p ∈ news, p.1 < D) → Q (.ref D) { s with heap := h', toks := tk' }) :
    wpAny (model PySem.Challenge.rw_ui0509_05.row.prog w) (ktrTop dp un gd cn cs L a ccd cl outer) (call (.ref 79) [.ref D1, .ref D2]) Q E s := by
  revert X; k_fill; intro X
  refine wpAny_call ?_
  k_dflt ktr_enter
  k_steps
  all_goals exact hret _ _ _ _ _ _ _ (by assumption) (by k_asm) (by k_asm) (by assumption)
theorem over_c {w : World} {p : Program} {loose : List Str} {mean : ExcName → Option Value} {mg mb : Str → Option Value} {dp un : Nat} {gd : Option (List Code)} {cn : Str} {cs : Scope} {a : Addr} {ccd : Value} {cl : List (Str × Addr)} {outer : List Env} {A₀ : Around} {base h₀ : Heap} {L : Addr} {m : Str → Option Value} {news : List (Addr × Obj)} {s : Shared} {Q E : Value → Shared → Prop} {D1 D2 : Addr} {x1 y1 x2 y2 : Int} {t1 t1' t2 t2' : Tok} {c1 c2 : Nat}
    (B : Below A₀ base outer h₀) (F : Fr h₀ L s.heap m) (X : (Mine.hd.heap_39 w.params).In h₀) (N : News h₀ L s.heap news) (T : Top p loose mean mg mb h₀) (hk : cs.kind = .function) (e1 : (D1, T2 x1 y1 t1 t1' c1) ∈ news) (e2 : (D2, T2 x2 y2 t2 t2' c2) ∈ news)
    (hd : dp + 3 < recursionLimit) (hu : un + 24 < cLine) (nz : y1 * x2 ≠ 0) (hz : x2 ≠ 0) (m0 : IntMulOk x1 y2) (m1 : IntMulOk y1 x2) (f1 : Fits (x1 * y2)) (f2 : Fits (y1 * x2))
    (hret : ∀ (r : Rat) (D : Addr) (t t' : Tok) (c : Nat) (h' : Heap) (tk' : Nat), r = Rat.divInt (x1 * y2) (y1 * x2) → Fr h₀ L h' m → News h₀ L h' ((D, RatO r t t' c) :: news) → (∀ p ∈ news, p.1 < D) → Q (.ref D) { s with heap := h', toks := tk' }) :
    wpAny (model PySem.Challenge.rw_ui0509_05.row.prog w) (ktrTop dp un gd cn cs L a ccd cl outer) (call (.ref 86) [.ref D1, .ref D2]) Q E s := by
  revert X; k_fill; intro X
  refine wpAny_call ?_
  k_dflt ktr_enter
  k_steps
  all_goals first | exact absurd (by assumption) hz | exact hret _ _ _ _ _ _ _ (by assumption) (by k_asm) (by k_asm) (by assumption)
theorem less_c {w : World} {p : Program} {loose : List Str} {mean : ExcName → Option Value} {mg mb : Str → Option Value} {dp un : Nat} {gd : Option (List Code)} {cn : Str} {cs : Scope} {a : Addr} {ccd : Value} {cl : List (Str × Addr)} {outer : List Env} {A₀ : Around} {base h₀ : Heap} {L : Addr} {m : Str → Option Value} {news : List (Addr × Obj)} {s : Shared} {Q E : Value → Shared → Prop} {D1 D2 : Addr} {x1 y1 x2 y2 : Int} {t1 t1' t2 t2' : Tok} {c1 c2 : Nat}
    (B : Below A₀ base outer h₀) (F : Fr h₀ L s.heap m) (X : (Mine.hd.heap_39 w.params).In h₀) (N : News h₀ L s.heap news) (T : Top p loose mean mg mb h₀) (hk : cs.kind = .function) (e1 : (D1, T2 x1 y1 t1 t1' c1) ∈ news) (e2 : (D2, T2 x2 y2 t2 t2' c2) ∈ news)
    (hd : dp + 3 < recursionLimit) (hu : un + 24 < cLine) (m0 : IntMulOk x1 y2) (m1 : IntMulOk x2 y1)
    (hret : ∀ (h' : Heap) (tk' : Nat), Fr h₀ L h' m → News h₀ L h' news → Q (.bool (decide (x1 * y2 < x2 * y1))) { s with heap := h', toks := tk' }) :
    wpAny (model PySem.Challenge.rw_ui0509_05.row.prog w) (ktrTop dp un gd cn cs L a ccd cl outer) (call (.ref 93) [.ref D1, .ref D2]) Q E s := by
  revert X; k_fill; intro X
  refine wpAny_call ?_
  k_dflt ktr_enter
  k_steps
  all_goals exact hret _ _ (by k_asm) (by k_asm)
theorem at_most_c {w : World} {p : Program} {loose : List Str} {mean : ExcName → Option Value} {mg mb : Str → Option Value} {dp un : Nat} {gd : Option (List Code)} {cn : Str} {cs : Scope} {a : Addr} {ccd : Value} {cl : List (Str × Addr)} {outer : List Env} {A₀ : Around} {base h₀ : Heap} {L : Addr} {m : Str → Option Value} {news : List (Addr × Obj)} {s : Shared} {Q E : Value → Shared → Prop} {D1 D2 : Addr} {x1 y1 x2 y2 : Int} {t1 t1' t2 t2' : Tok} {c1 c2 : Nat}
    (B : Below A₀ base outer h₀) (F : Fr h₀ L s.heap m) (X : (Mine.hd.heap_39 w.params).In h₀) (N : News h₀ L s.heap news) (T : Top p loose mean mg mb h₀) (hk : cs.kind = .function) (e1 : (D1, T2 x1 y1 t1 t1' c1) ∈ news) (e2 : (D2, T2 x2 y2 t2 t2' c2) ∈ news)
    (hd : dp + 3 < recursionLimit) (hu : un + 24 < cLine) (m0 : IntMulOk x1 y2) (m1 : IntMulOk x2 y1)
    (hret : ∀ (h' : Heap) (tk' : Nat), Fr h₀ L h' m → News h₀ L h' news → Q (.bool (decide (x1 * y2 ≤ x2 * y1))) { s with heap := h', toks := tk' }) :
    wpAny (model PySem.Challenge.rw_ui0509_05.row.prog w) (ktrTop dp un gd cn cs L a ccd cl outer) (call (.ref 100) [.ref D1, .ref D2]) Q E s := by
  revert X; k_fill; intro X
  refine wpAny_call ?_
  k_dflt ktr_enter
  k_steps
  all_goals exact hret _ _ (by k_asm) (by k_asm)
end
theorem bits_one : Builtin.Int.intBits 1 ≤ 1 := by decide
theorem plus_u {w : World} {p : Program} {loose : List Str} {mean : ExcName → Option Value} {mg mb : Str → Option Value} {dp un : Nat} {gd : Option (List Code)} {cn : Str} {cs : Scope} {a : Addr} {ccd : Value} {cl : List (Str × Addr)} {outer : List Env} {A₀ : Around} {base h₀ : Heap} {L : Addr} {m : Str → Option Value} {news : List (Addr × Obj)} {s : Shared} {Q E : Value → Shared → Prop} {D1 D2 : Addr} {x1 y1 x2 y2 : Int} {t1 t1' t2 t2' : Tok} {c1 c2 : Nat} {n1 k1 n2 k2 : Nat}
    (B : Below A₀ base outer h₀) (F : Fr h₀ L s.heap m) (X : (Mine.hd.heap_39 w.params).In h₀) (N : News h₀ L s.heap news) (T : Top p loose mean mg mb h₀) (hk : cs.kind = .function) (e1 : (D1, T2 x1 y1 t1 t1' c1) ∈ news) (e2 : (D2, T2 x2 y2 t2 t2' c2) ∈ news)
    (hd : dp + 3 < recursionLimit) (hu : un + 24 < cLine) (hy : y1 ≠ 0) (hz : y2 ≠ 0) (b1 : Builtin.Int.intBits x1 ≤ n1) (b2 : Builtin.Int.intBits y1 ≤ k1) (b3 : Builtin.Int.intBits x2 ≤ n2) (b4 : Builtin.Int.intBits y2 ≤ k2) (hbu : max (n1 + k2) (n2 + k1) + 1 ≤ 6643) (hbl : k1 + k2 ≤ 6643)
    (hret : ∀ (r : Rat) (D : Addr) (t t' : Tok) (c : Nat) (h' : Heap) (tk' : Nat), r = Rat.divInt (x1 * y2 + x2 * y1) (y1 * y2) → Builtin.Int.intBits r.num ≤ max (n1 + k2) (n2 + k1) + 1 → Builtin.Int.intBits (r.den : Int) ≤ k1 + k2 → Fr h₀ L h' m → News h₀ L h' ((D, RatO r t t' c) :: news) → (∀ p ∈ news, p.1 < D) → Q (.ref D) { s with heap := h', toks := tk' }) :
    wpAny (model PySem.Challenge.rw_ui0509_05.row.prog w) (ktrTop dp un gd cn cs L a ccd cl outer) (call (.ref 65) [.ref D1, .ref D2]) Q E s :=
  plus_c B F X N T hk e1 e2 hd hu (nzmul hy hz) (mulOk_of_bits b1 b4 (by omega)) (mulOk_of_bits b3 b2 (by omega)) (mulOk_of_bits b2 b4 (by omega)) (Fits.of (bits_add (bits_mul b1 b4) (bits_mul b3 b2)) hbu) (Fits.of (bits_mul b2 b4) hbl) fun r D t t' c h' tk' e F' N' l => hret r D t t' c h' tk' e (e ▸ bits_num (bits_add (bits_mul b1 b4) (bits_mul b3 b2))) (e ▸ bits_den (nzmul hy hz) (bits_mul b2 b4)) F' N' l
theorem plus_z {w : World} {p : Program} {loose : List Str} {mean : ExcName → Option Value} {mg mb : Str → Option Value} {dp un : Nat} {gd : Option (List Code)} {cn : Str} {cs : Scope} {a : Addr} {ccd : Value} {cl : List (Str × Addr)} {outer : List Env} {A₀ : Around} {base h₀ : Heap} {L : Addr} {m : Str → Option Value} {news : List (Addr × Obj)} {s : Shared} {Q E : Value → Shared → Prop} {D1 D2 : Addr} {x1 x2 : Int} {t1 t1' t2 t2' : Tok} {c1 c2 : Nat} {n1 n2 : Nat}
    (B : Below A₀ base outer h₀) (F : Fr h₀ L s.heap m) (X : (Mine.hd.heap_39 w.params).In h₀) (N : News h₀ L s.heap news) (T : Top p loose mean mg mb h₀) (hk : cs.kind = .function) (e1 : (D1, T2 x1 1 t1 t1' c1) ∈ news) (e2 : (D2, T2 x2 1 t2 t2' c2) ∈ news)
    (hd : dp + 3 < recursionLimit) (hu : un + 24 < cLine) (b1 : Builtin.Int.intBits x1 ≤ n1) (b3 : Builtin.Int.intBits x2 ≤ n2) (hbu : max (n1 + 1) (n2 + 1) + 1 ≤ 6643)
    (hret : ∀ (D : Addr) (t t' : Tok) (c : Nat) (h' : Heap) (tk' : Nat), Fr h₀ L h' m → News h₀ L h' ((D, T2 (x1 + x2) 1 t t' c) :: news) → (∀ p ∈ news, p.1 < D) → Q (.ref D) { s with heap := h', toks := tk' }) :
    wpAny (model PySem.Challenge.rw_ui0509_05.row.prog w) (ktrTop dp un gd cn cs L a ccd cl outer) (call (.ref 65) [.ref D1, .ref D2]) Q E s :=
  plus_u B F X N T hk e1 e2 hd hu (by decide) (by decide) b1 bits_one b3 bits_one hbu (by decide) fun r D t t' c h' tk' e _ _ F' N' l => hret D t t' c h' tk' F' (by
    have e' : r = Rat.divInt (x1 + x2) 1 := by rw [e]; congr 1; omega
    subst e'
    unfold RatO at N'
    rw [r_one_num, r_one_den] at N'
    exact N') l
theorem minus_u {w : World} {p : Program} {loose : List Str} {mean : ExcName → Option Value} {mg mb : Str → Option Value} {dp un : Nat} {gd : Option (List Code)} {cn : Str} {cs : Scope} {a : Addr} {ccd : Value} {cl : List (Str × Addr)} {outer : List Env} {A₀ : Around} {base h₀ : Heap} {L : Addr} {m : Str → Option Value} {news : List (Addr × Obj)} {s : Shared} {Q E : Value → Shared → Prop} {D1 D2 : Addr} {x1 y1 x2 y2 : Int} {t1 t1' t2 t2' : Tok} {c1 c2 : Nat} {n1 k1 n2 k2 : Nat}
    (B : Below A₀ base outer h₀) (F : Fr h₀ L s.heap m) (X : (Mine.hd.heap_39 w.params).In h₀) (N : News h₀ L s.heap news) (T : Top p loose mean mg mb h₀) (hk : cs.kind = .function) (e1 : (D1, T2 x1 y1 t1 t1' c1) ∈ news) (e2 : (D2, T2 x2 y2 t2 t2' c2) ∈ news)
    (hd : dp + 3 < recursionLimit) (hu : un + 24 < cLine) (hy : y1 ≠ 0) (hz : y2 ≠ 0) (b1 : Builtin.Int.intBits x1 ≤ n1) (b2 : Builtin.Int.intBits y1 ≤ k1) (b3 : Builtin.Int.intBits x2 ≤ n2) (b4 : Builtin.Int.intBits y2 ≤ k2) (hbu : max (n1 + k2) (n2 + k1) + 1 ≤ 6643) (hbl : k1 + k2 ≤ 6643)
    (hret : ∀ (r : Rat) (D : Addr) (t t' : Tok) (c : Nat) (h' : Heap) (tk' : Nat), r = Rat.divInt (x1 * y2 - x2 * y1) (y1 * y2) → Builtin.Int.intBits r.num ≤ max (n1 + k2) (n2 + k1) + 1 → Builtin.Int.intBits (r.den : Int) ≤ k1 + k2 → Fr h₀ L h' m → News h₀ L h' ((D, RatO r t t' c) :: news) → (∀ p ∈ news, p.1 < D) → Q (.ref D) { s with heap := h', toks := tk' }) :
    wpAny (model PySem.Challenge.rw_ui0509_05.row.prog w) (ktrTop dp un gd cn cs L a ccd cl outer) (call (.ref 72) [.ref D1, .ref D2]) Q E s :=
  minus_c B F X N T hk e1 e2 hd hu (nzmul hy hz) (mulOk_of_bits b1 b4 (by omega)) (mulOk_of_bits b3 b2 (by omega)) (mulOk_of_bits b2 b4 (by omega)) (Fits.of (bits_sub (bits_mul b1 b4) (bits_mul b3 b2)) hbu) (Fits.of (bits_mul b2 b4) hbl) fun r D t t' c h' tk' e F' N' l => hret r D t t' c h' tk' e (e ▸ bits_num (bits_sub (bits_mul b1 b4) (bits_mul b3 b2))) (e ▸ bits_den (nzmul hy hz) (bits_mul b2 b4)) F' N' l
theorem minus_z {w : World} {p : Program} {loose : List Str} {mean : ExcName → Option Value} {mg mb : Str → Option Value} {dp un : Nat} {gd : Option (List Code)} {cn : Str} {cs : Scope} {a : Addr} {ccd : Value} {cl : List (Str × Addr)} {outer : List Env} {A₀ : Around} {base h₀ : Heap} {L : Addr} {m : Str → Option Value} {news : List (Addr × Obj)} {s : Shared} {Q E : Value → Shared → Prop} {D1 D2 : Addr} {x1 x2 : Int} {t1 t1' t2 t2' : Tok} {c1 c2 : Nat} {n1 n2 : Nat}
    (B : Below A₀ base outer h₀) (F : Fr h₀ L s.heap m) (X : (Mine.hd.heap_39 w.params).In h₀) (N : News h₀ L s.heap news) (T : Top p loose mean mg mb h₀) (hk : cs.kind = .function) (e1 : (D1, T2 x1 1 t1 t1' c1) ∈ news) (e2 : (D2, T2 x2 1 t2 t2' c2) ∈ news)
    (hd : dp + 3 < recursionLimit) (hu : un + 24 < cLine) (b1 : Builtin.Int.intBits x1 ≤ n1) (b3 : Builtin.Int.intBits x2 ≤ n2) (hbu : max (n1 + 1) (n2 + 1) + 1 ≤ 6643)
    (hret : ∀ (D : Addr) (t t' : Tok) (c : Nat) (h' : Heap) (tk' : Nat), Fr h₀ L h' m → News h₀ L h' ((D, T2 (x1 - x2) 1 t t' c) :: news) → (∀ p ∈ news, p.1 < D) → Q (.ref D) { s with heap := h', toks := tk' }) :
    wpAny (model PySem.Challenge.rw_ui0509_05.row.prog w) (ktrTop dp un gd cn cs L a ccd cl outer) (call (.ref 72) [.ref D1, .ref D2]) Q E s :=
  minus_u B F X N T hk e1 e2 hd hu (by decide) (by decide) b1 bits_one b3 bits_one hbu (by decide) fun r D t t' c h' tk' e _ _ F' N' l => hret D t t' c h' tk' F' (by
    have e' : r = Rat.divInt (x1 - x2) 1 := by rw [e]; congr 1; omega
    subst e'
    unfold RatO at N'
    rw [r_one_num, r_one_den] at N'
    exact N') l
theorem times_u {w : World} {p : Program} {loose : List Str} {mean : ExcName → Option Value} {mg mb : Str → Option Value} {dp un : Nat} {gd : Option (List Code)} {cn : Str} {cs : Scope} {a : Addr} {ccd : Value} {cl : List (Str × Addr)} {outer : List Env} {A₀ : Around} {base h₀ : Heap} {L : Addr} {m : Str → Option Value} {news : List (Addr × Obj)} {s : Shared} {Q E : Value → Shared → Prop} {D1 D2 : Addr} {x1 y1 x2 y2 : Int} {t1 t1' t2 t2' : Tok} {c1 c2 : Nat} {n1 k1 n2 k2 : Nat}
    (B : Below A₀ base outer h₀) (F : Fr h₀ L s.heap m) (X : (Mine.hd.heap_39 w.params).In h₀) (N : News h₀ L s.heap news) (T : Top p loose mean mg mb h₀) (hk : cs.kind = .function) (e1 : (D1, T2 x1 y1 t1 t1' c1) ∈ news) (e2 : (D2, T2 x2 y2 t2 t2' c2) ∈ news)
    (hd : dp + 3 < recursionLimit) (hu : un + 24 < cLine) (hy : y1 ≠ 0) (hz : y2 ≠ 0) (b1 : Builtin.Int.intBits x1 ≤ n1) (b2 : Builtin.Int.intBits y1 ≤ k1) (b3 : Builtin.Int.intBits x2 ≤ n2) (b4 : Builtin.Int.intBits y2 ≤ k2) (hbu : n1 + n2 ≤ 6643) (hbl : k1 + k2 ≤ 6643)
    (hret : ∀ (r : Rat) (D : Addr) (t t' : Tok) (c : Nat) (h' : Heap) (tk' : Nat), r = Rat.divInt (x1 * x2) (y1 * y2) → Builtin.Int.intBits r.num ≤ n1 + n2 → Builtin.Int.intBits (r.den : Int) ≤ k1 + k2 → Fr h₀ L h' m → News h₀ L h' ((D, RatO r t t' c) :: news) → (∀ p ∈ news, p.1 < D) → Q (.ref D) { s with heap := h', toks := tk' }) :
    wpAny (model PySem.Challenge.rw_ui0509_05.row.prog w) (ktrTop dp un gd cn cs L a ccd cl outer) (call (.ref 79) [.ref D1, .ref D2]) Q E s :=
  times_c B F X N T hk e1 e2 hd hu (nzmul hy hz) (mulOk_of_bits b1 b3 (by omega)) (mulOk_of_bits b2 b4 (by omega)) (Fits.of (bits_mul b1 b3) hbu) (Fits.of (bits_mul b2 b4) hbl) fun r D t t' c h' tk' e F' N' l => hret r D t t' c h' tk' e (e ▸ bits_num (bits_mul b1 b3)) (e ▸ bits_den (nzmul hy hz) (bits_mul b2 b4)) F' N' l
theorem times_z {w : World} {p : Program} {loose : List Str} {mean : ExcName → Option Value} {mg mb : Str → Option Value} {dp un : Nat} {gd : Option (List Code)} {cn : Str} {cs : Scope} {a : Addr} {ccd : Value} {cl : List (Str × Addr)} {outer : List Env} {A₀ : Around} {base h₀ : Heap} {L : Addr} {m : Str → Option Value} {news : List (Addr × Obj)} {s : Shared} {Q E : Value → Shared → Prop} {D1 D2 : Addr} {x1 x2 : Int} {t1 t1' t2 t2' : Tok} {c1 c2 : Nat} {n1 n2 : Nat}
    (B : Below A₀ base outer h₀) (F : Fr h₀ L s.heap m) (X : (Mine.hd.heap_39 w.params).In h₀) (N : News h₀ L s.heap news) (T : Top p loose mean mg mb h₀) (hk : cs.kind = .function) (e1 : (D1, T2 x1 1 t1 t1' c1) ∈ news) (e2 : (D2, T2 x2 1 t2 t2' c2) ∈ news)
    (hd : dp + 3 < recursionLimit) (hu : un + 24 < cLine) (b1 : Builtin.Int.intBits x1 ≤ n1) (b3 : Builtin.Int.intBits x2 ≤ n2) (hbu : n1 + n2 ≤ 6643)
    (hret : ∀ (D : Addr) (t t' : Tok) (c : Nat) (h' : Heap) (tk' : Nat), Fr h₀ L h' m → News h₀ L h' ((D, T2 (x1 * x2) 1 t t' c) :: news) → (∀ p ∈ news, p.1 < D) → Q (.ref D) { s with heap := h', toks := tk' }) :
    wpAny (model PySem.Challenge.rw_ui0509_05.row.prog w) (ktrTop dp un gd cn cs L a ccd cl outer) (call (.ref 79) [.ref D1, .ref D2]) Q E s :=
  times_u B F X N T hk e1 e2 hd hu (by decide) (by decide) b1 bits_one b3 bits_one hbu (by decide) fun r D t t' c h' tk' e _ _ F' N' l => hret D t t' c h' tk' F' (by
    have e' : r = Rat.divInt (x1 * x2) 1 := by rw [e]; rfl
    subst e'
    unfold RatO at N'
    rw [r_one_num, r_one_den] at N'
    exact N') l
theorem over_u {w : World} {p : Program} {loose : List Str} {mean : ExcName → Option Value} {mg mb : Str → Option Value} {dp un : Nat} {gd : Option (List Code)} {cn : Str} {cs : Scope} {a : Addr} {ccd : Value} {cl : List (Str × Addr)} {outer : List Env} {A₀ : Around} {base h₀ : Heap} {L : Addr} {m : Str → Option Value} {news : List (Addr × Obj)} {s : Shared} {Q E : Value → Shared → Prop} {D1 D2 : Addr} {x1 y1 x2 y2 : Int} {t1 t1' t2 t2' : Tok} {c1 c2 : Nat} {n1 k1 n2 k2 : Nat}
    (B : Below A₀ base outer h₀) (F : Fr h₀ L s.heap m) (X : (Mine.hd.heap_39 w.params).In h₀) (N : News h₀ L s.heap news) (T : Top p loose mean mg mb h₀) (hk : cs.kind = .function) (e1 : (D1, T2 x1 y1 t1 t1' c1) ∈ news) (e2 : (D2, T2 x2 y2 t2 t2' c2) ∈ news)
    (hd : dp + 3 < recursionLimit) (hu : un + 24 < cLine) (hy : y1 ≠ 0) (hz : x2 ≠ 0) (b1 : Builtin.Int.intBits x1 ≤ n1) (b2 : Builtin.Int.intBits y1 ≤ k1) (b3 : Builtin.Int.intBits x2 ≤ n2) (b4 : Builtin.Int.intBits y2 ≤ k2) (hbu : n1 + k2 ≤ 6643) (hbl : k1 + n2 ≤ 6643)
    (hret : ∀ (r : Rat) (D : Addr) (t t' : Tok) (c : Nat) (h' : Heap) (tk' : Nat), r = Rat.divInt (x1 * y2) (y1 * x2) → Builtin.Int.intBits r.num ≤ n1 + k2 → Builtin.Int.intBits (r.den : Int) ≤ k1 + n2 → Fr h₀ L h' m → News h₀ L h' ((D, RatO r t t' c) :: news) → (∀ p ∈ news, p.1 < D) → Q (.ref D) { s with heap := h', toks := tk' }) :
    wpAny (model PySem.Challenge.rw_ui0509_05.row.prog w) (ktrTop dp un gd cn cs L a ccd cl outer) (call (.ref 86) [.ref D1, .ref D2]) Q E s :=
  over_c B F X N T hk e1 e2 hd hu (nzmul hy hz) hz (mulOk_of_bits b1 b4 (by omega)) (mulOk_of_bits b2 b3 (by omega)) (Fits.of (bits_mul b1 b4) hbu) (Fits.of (bits_mul b2 b3) hbl) fun r D t t' c h' tk' e F' N' l => hret r D t t' c h' tk' e (e ▸ bits_num (bits_mul b1 b4)) (e ▸ bits_den (nzmul hy hz) (bits_mul b2 b3)) F' N' l
theorem less_u {w : World} {p : Program} {loose : List Str} {mean : ExcName → Option Value} {mg mb : Str → Option Value} {dp un : Nat} {gd : Option (List Code)} {cn : Str} {cs : Scope} {a : Addr} {ccd : Value} {cl : List (Str × Addr)} {outer : List Env} {A₀ : Around} {base h₀ : Heap} {L : Addr} {m : Str → Option Value} {news : List (Addr × Obj)} {s : Shared} {Q E : Value → Shared → Prop} {D1 D2 : Addr} {x1 y1 x2 y2 : Int} {t1 t1' t2 t2' : Tok} {c1 c2 : Nat} {n1 k1 n2 k2 : Nat}
    (B : Below A₀ base outer h₀) (F : Fr h₀ L s.heap m) (X : (Mine.hd.heap_39 w.params).In h₀) (N : News h₀ L s.heap news) (T : Top p loose mean mg mb h₀) (hk : cs.kind = .function) (e1 : (D1, T2 x1 y1 t1 t1' c1) ∈ news) (e2 : (D2, T2 x2 y2 t2 t2' c2) ∈ news)
    (hd : dp + 3 < recursionLimit) (hu : un + 24 < cLine) (b1 : Builtin.Int.intBits x1 ≤ n1) (b2 : Builtin.Int.intBits y1 ≤ k1) (b3 : Builtin.Int.intBits x2 ≤ n2) (b4 : Builtin.Int.intBits y2 ≤ k2) (hbu : n1 + k2 ≤ 100000) (hbl : n2 + k1 ≤ 100000)
    (hret : ∀ (h' : Heap) (tk' : Nat), Fr h₀ L h' m → News h₀ L h' news → Q (.bool (decide (x1 * y2 < x2 * y1))) { s with heap := h', toks := tk' }) :
    wpAny (model PySem.Challenge.rw_ui0509_05.row.prog w) (ktrTop dp un gd cn cs L a ccd cl outer) (call (.ref 93) [.ref D1, .ref D2]) Q E s :=
  less_c B F X N T hk e1 e2 hd hu (mulOk_of_bits b1 b4 (by omega)) (mulOk_of_bits b3 b2 (by omega)) hret
theorem less_z {w : World} {p : Program} {loose : List Str} {mean : ExcName → Option Value} {mg mb : Str → Option Value} {dp un : Nat} {gd : Option (List Code)} {cn : Str} {cs : Scope} {a : Addr} {ccd : Value} {cl : List (Str × Addr)} {outer : List Env} {A₀ : Around} {base h₀ : Heap} {L : Addr} {m : Str → Option Value} {news : List (Addr × Obj)} {s : Shared} {Q E : Value → Shared → Prop} {D1 D2 : Addr} {x1 x2 : Int} {t1 t1' t2 t2' : Tok} {c1 c2 : Nat} {n1 n2 : Nat}
    (B : Below A₀ base outer h₀) (F : Fr h₀ L s.heap m) (X : (Mine.hd.heap_39 w.params).In h₀) (N : News h₀ L s.heap news) (T : Top p loose mean mg mb h₀) (hk : cs.kind = .function) (e1 : (D1, T2 x1 1 t1 t1' c1) ∈ news) (e2 : (D2, T2 x2 1 t2 t2' c2) ∈ news)
    (hd : dp + 3 < recursionLimit) (hu : un + 24 < cLine) (b1 : Builtin.Int.intBits x1 ≤ n1) (b3 : Builtin.Int.intBits x2 ≤ n2) (hbu : n1 + 1 ≤ 100000) (hbl : n2 + 1 ≤ 100000)
    (hret : ∀ (h' : Heap) (tk' : Nat), Fr h₀ L h' m → News h₀ L h' news → Q (.bool (decide (x1 < x2))) { s with heap := h', toks := tk' }) :
    wpAny (model PySem.Challenge.rw_ui0509_05.row.prog w) (ktrTop dp un gd cn cs L a ccd cl outer) (call (.ref 93) [.ref D1, .ref D2]) Q E s :=
  less_u B F X N T hk e1 e2 hd hu b1 bits_one b3 bits_one hbu hbl (by simpa only [Int.mul_one] using hret)
theorem at_most_u {w : World} {p : Program} {loose : List Str} {mean : ExcName → Option Value} {mg mb : Str → Option Value} {dp un : Nat} {gd : Option (List Code)} {cn : Str} {cs : Scope} {a : Addr} {ccd : Value} {cl : List (Str × Addr)} {outer : List Env} {A₀ : Around} {base h₀ : Heap} {L : Addr} {m : Str → Option Value} {news : List (Addr × Obj)} {s : Shared} {Q E : Value → Shared → Prop} {D1 D2 : Addr} {x1 y1 x2 y2 : Int} {t1 t1' t2 t2' : Tok} {c1 c2 : Nat} {n1 k1 n2 k2 : Nat}
    (B : Below A₀ base outer h₀) (F : Fr h₀ L s.heap m) (X : (Mine.hd.heap_39 w.params).In h₀) (N : News h₀ L s.heap news) (T : Top p loose mean mg mb h₀) (hk : cs.kind = .function) (e1 : (D1, T2 x1 y1 t1 t1' c1) ∈ news) (e2 : (D2, T2 x2 y2 t2 t2' c2) ∈ news)
    (hd : dp + 3 < recursionLimit) (hu : un + 24 < cLine) (b1 : Builtin.Int.intBits x1 ≤ n1) (b2 : Builtin.Int.intBits y1 ≤ k1) (b3 : Builtin.Int.intBits x2 ≤ n2) (b4 : Builtin.Int.intBits y2 ≤ k2) (hbu : n1 + k2 ≤ 100000) (hbl : n2 + k1 ≤ 100000)
    (hret : ∀ (h' : Heap) (tk' : Nat), Fr h₀ L h' m → News h₀ L h' news → Q (.bool (decide (x1 * y2 ≤ x2 * y1))) { s with heap := h', toks := tk' }) :
    wpAny (model PySem.Challenge.rw_ui0509_05.row.prog w) (ktrTop dp un gd cn cs L a ccd cl outer) (call (.ref 100) [.ref D1, .ref D2]) Q E s :=
  at_most_c B F X N T hk e1 e2 hd hu (mulOk_of_bits b1 b4 (by omega)) (mulOk_of_bits b3 b2 (by omega)) hret
theorem at_most_z {w : World} {p : Program} {loose : List Str} {mean : ExcName → Option Value} {mg mb : Str → Option Value} {dp un : Nat} {gd : Option (List Code)} {cn : Str} {cs : Scope} {a : Addr} {ccd : Value} {cl : List (Str × Addr)} {outer : List Env} {A₀ : Around} {base h₀ : Heap} {L : Addr} {m : Str → Option Value} {news : List (Addr × Obj)} {s : Shared} {Q E : Value → Shared → Prop} {D1 D2 : Addr} {x1 x2 : Int} {t1 t1' t2 t2' : Tok} {c1 c2 : Nat} {n1 n2 : Nat}
    (B : Below A₀ base outer h₀) (F : Fr h₀ L s.heap m) (X : (Mine.hd.heap_39 w.params).In h₀) (N : News h₀ L s.heap news) (T : Top p loose mean mg mb h₀) (hk : cs.kind = .function) (e1 : (D1, T2 x1 1 t1 t1' c1) ∈ news) (e2 : (D2, T2 x2 1 t2 t2' c2) ∈ news)
    (hd : dp + 3 < recursionLimit) (hu : un + 24 < cLine) (b1 : Builtin.Int.intBits x1 ≤ n1) (b3 : Builtin.Int.intBits x2 ≤ n2) (hbu : n1 + 1 ≤ 100000) (hbl : n2 + 1 ≤ 100000)
    (hret : ∀ (h' : Heap) (tk' : Nat), Fr h₀ L h' m → News h₀ L h' news → Q (.bool (decide (x1 ≤ x2))) { s with heap := h', toks := tk' }) :
    wpAny (model PySem.Challenge.rw_ui0509_05.row.prog w) (ktrTop dp un gd cn cs L a ccd cl outer) (call (.ref 100) [.ref D1, .ref D2]) Q E s :=
  at_most_u B F X N T hk e1 e2 hd hu b1 bits_one b3 bits_one hbu hbl (by simpa only [Int.mul_one] using hret)
theorem frac_sf {w : World} {p : Program} {loose : List Str} {mean : ExcName → Option Value} {mg mb : Str → Option Value} {dp un : Nat} {gd : Option (List Code)} {cn : Str} {cs : Scope} {a : Addr} {ccd : Value} {cl : List (Str × Addr)} {outer : List Env} {A₀ : Around} {base h₀ : Heap} {L : Addr} {m : Str → Option Value} {news : List (Addr × Obj)} {s : Shared} {Q E : Value → Shared → Prop} {r : Rat} {t1 t2 : Tok}
    (B : Below A₀ base outer h₀) (F : Fr h₀ L s.heap m) (X : (Mine.hd.heap_39 w.params).In h₀) (N : News h₀ L s.heap news) (T : Top p loose mean mg mb h₀) (hk : cs.kind = .function)
    (hd : dp + 2 < recursionLimit) (hu : un + 16 < cLine) (hx1 : Fits r.num) (hy1 : Fits (r.den : Int))
    (hret : ∀ (D : Addr) (t t' : Tok) (c : Nat) (h' : Heap) (tk' : Nat), Fr h₀ L h' m → News h₀ L h' ((D, RatO r t t' c) :: news) → (∀ p ∈ news, p.1 < D) → Q (.ref D) { s with heap := h', toks := tk' }) :
    wpAny (model PySem.Challenge.rw_ui0509_05.row.prog w) (ktrTop dp un gd cn cs L a ccd cl outer) (call (.ref 50) [.int r.num t1, .int (r.den : Int) t2]) Q E s :=
  frac_c dp un gd cn cs a ccd cl outer A₀ base h₀ L m news s Q E r.num r.den t1 t2 B F X N T hk hd hu (nzden r) hx1 hy1 fun r' D t t' c h' tk' e F' N' l => hret D t t' c h' tk' F' (by
    rw [Rat.num_divInt_den] at e
    subst e
    exact N') l
theorem eq_T2 {prog : Program} {w : World} {A : Around} {E : Value → Shared → Prop} {s : Shared} {h₀ : Heap} {L D1 D2 : Addr} {news : List (Addr × Obj)} {x1 y1 x2 y2 : Int} {t1 t1' t2 t2' : Tok} {c1 c2 : Nat} {Q : Value → Shared → Prop}
    (N : News h₀ L s.heap news) (e1 : (D1, T2 x1 y1 t1 t1' c1) ∈ news) (e2 : (D2, T2 x2 y2 t2 t2' c2) ∈ news) (hu : A.units + 64 < cLine) (h : Q (.bool ((x1 == x2 && y1 == y2))) s) : wpAny (model prog w) A (compareOp .Eq (.ref D1) (.ref D2)) Q E s := by
  refine eq_dataH (reads_tuple_at (N.get e1) rfl rfl (ReadsAll.cons (Reads.int _ _) (ReadsAll.cons (Reads.int _ _) ReadsAll.nil))) (reads_tuple_at (N.get e2) rfl rfl (ReadsAll.cons (Reads.int _ _) (ReadsAll.cons (Reads.int _ _) ReadsAll.nil))) (by ke_shaped) (by ke_shaped) hu ?_
  ke_norm
  exact h
theorem ne_T2 {prog : Program} {w : World} {A : Around} {E : Value → Shared → Prop} {s : Shared} {h₀ : Heap} {L D1 D2 : Addr} {news : List (Addr × Obj)} {x1 y1 x2 y2 : Int} {t1 t1' t2 t2' : Tok} {c1 c2 : Nat} {Q : Value → Shared → Prop}
    (N : News h₀ L s.heap news) (e1 : (D1, T2 x1 y1 t1 t1' c1) ∈ news) (e2 : (D2, T2 x2 y2 t2 t2' c2) ∈ news) (hu : A.units + 64 < cLine) (h : Q (.bool (!(x1 == x2 && y1 == y2))) s) : wpAny (model prog w) A (compareOp .NotEq (.ref D1) (.ref D2)) Q E s := by
  refine ne_dataH (reads_tuple_at (N.get e1) rfl rfl (ReadsAll.cons (Reads.int _ _) (ReadsAll.cons (Reads.int _ _) ReadsAll.nil))) (reads_tuple_at (N.get e2) rfl rfl (ReadsAll.cons (Reads.int _ _) (ReadsAll.cons (Reads.int _ _) ReadsAll.nil))) (by ke_shaped) (by ke_shaped) hu ?_
  ke_norm
  exact h
section
local macro_rules | `(tactic| k_mem) => `(tactic| first | with_reducible assumption | (refine List.mem_cons_of_mem _ ?_; with_reducible assumption) | (refine List.mem_cons_of_mem _ (List.mem_cons_of_mem _ ?_); with_reducible assumption) | (refine List.mem_cons_of_mem _ (List.mem_cons_of_mem _ (List.mem_cons_of_mem _ ?_)); with_reducible assumption))
local macro_rules | `(tactic| walk_at "call ref") => `(tactic| (k_here; refine wpAny_call ?_; k_dflt (refine' code_def ?k1 ?k2 ?k3 ?k4 ?k5 ?kA ?kF ?kK ?k6 ?k7 ?k8 ?k9 ?kB ?_ ?c2 ?c3 ?c4 ?c5; (case kA => exact rfl); (case kF => exact rfl); (case kK => first | exact rfl | assumption); (case k1 => k_asm); (case k2 => k_asm); (case k3 => k_asm); (case k4 => k_asm); (case k5 => k_asm); (case k6 => k_is); (case k7 => k_is); (case k8 => ktr_room); (case k9 => first | exact BindsTo.of_eq rfl | exact binds_K (by k_in) rfl (by k_is) rfl rfl rfl); (case c5 => decide); (case kB => exact locs rfl); (case c2 => exact rfl); (case c3 => exact rfl); (case c4 => exact rfl); k_whole; intro g' L' h' FG' F' N' B' X' T'; (try dsimp only); (try k_fold))))
local macro_rules | `(tactic| walk_at "call ref") => `(tactic| (k_here; (with_reducible show wpAny _ _ (call (Value.ref 50) [Value.int _ _, Value.int _ _]) _ _ _); k_dflt (refine' frac_sf ?k1 ?k2 ?k3 ?k4 ?k5 ?k6 ?k7 ?k8 ?k10 ?k11 ?_; (case k1 => k_asm); (case k2 => k_asm); (case k3 => k_asm); (case k4 => k_asm); (case k5 => k_asm); (case k6 => first | exact rfl | assumption); (case k7 => ktr_room); (case k8 => ktr_units); (case k10 => assumption); (case k11 => assumption); k_whole); intro D' t' u' c' h' tk' F' N' l1; (try k_sweep)))
local macro_rules | `(tactic| walk_at "compareOp NotEq ref ref") => `(tactic| (k_here; (with_reducible show wpAny _ _ (compareOp CmpOp.NotEq (Value.ref _) (Value.ref _)) _ _ _); k_dflt (refine' ne_T2 ?k1 ?k2 ?k3 ?k4 ?_; (case k1 => k_asm); (case k2 => k_mem); (case k3 => k_mem); (case k4 => first | exact Nat.le_of_ble_eq_true rfl | ktr_units)); (try simp only [beq_self_eq_true, Bool.and_true, Bool.true_and, Bool.not_true, Bool.not_false])))
local macro_rules | `(tactic| walk_at "binaryOp Mult int int") => `(tactic| (with_reducible refine mul_int ?_ ?mo; (case mo => first | exact IntMulOk.of_right (PySem.intBits_le_64 (by omega) (by omega)) | exact IntMulOk.of_left (PySem.intBits_le_64 (by omega) (by omega)))))
theorem need_c {w : World} {p : Program} {loose : List Str} {mean : ExcName → Option Value} {mg mb : Str → Option Value} {dp un : Nat} {gd : Option (List Code)} {cn : Str} {cs : Scope} {a : Addr} {ccd : Value} {cl : List (Str × Addr)} {outer : List Env} {A₀ : Around} {base h₀ : Heap} {L : Addr} {m : Str → Option Value} {news : List (Addr × Obj)} {s : Shared} {Q E : Value → Shared → Prop} {D1 : Addr} {r : Rat} {t1 t1' : Tok} {c1 : Nat}
    (B : Below A₀ base outer h₀) (F : Fr h₀ L s.heap m) (X : (Mine.hd.heap_39 w.params).In h₀) (N : News h₀ L s.heap news) (T : Top p loose mean mg mb h₀) (hk : cs.kind = .function) (e1 : (D1, RatO r t1 t1' c1) ∈ news)
    (hd : dp + 3 < recursionLimit) (hu : un + 100 < cLine) (hx1 : Fits r.num) (hy1 : Fits (r.den : Int))
    (hret : ∀ (h' : Heap) (tk' : Nat), Fr h₀ L h' m → News h₀ L h' news → Q (.ref D1) { s with heap := h', toks := tk' }) :
    wpAny (model PySem.Challenge.rw_ui0509_05.row.prog w) (ktrTop dp un gd cn cs L a ccd cl outer) (call (.ref 58) [.ref D1]) Q E s := by
  revert X; k_fill; intro X
  refine wpAny_call ?_
  k_dflt (refine' code_def ?k1 ?k2 ?k3 ?k4 ?k5 ?kA ?kF ?kK ?k6 ?k7 ?k8 ?k9 ?kB ?_ ?c2 ?c3 ?c4 ?c5; (case kA => exact rfl); (case kF => exact rfl); (case kK => assumption); (case k1 => k_asm); (case k2 => k_asm); (case k3 => k_asm); (case k4 => k_asm); (case k5 => k_asm); (case k6 => k_is); (case k7 => k_is); (case k8 => ktr_room); (case k9 => first | exact BindsTo.of_eq rfl | exact binds_K (by k_in) rfl (by k_is) rfl rfl rfl); (case c5 => decide); (case kB => exact locs rfl); (case c2 => exact rfl); (case c3 => exact rfl); (case c4 => exact rfl); k_whole; intro g' L' h' FG' F' N' B' X' T'; (try dsimp only); (try k_fold))
  k_steps
  all_goals exact hret _ _ (by k_asm) (by first | k_asm | exact cb_drop (by k_asm) (fun _ h => List.mem_cons_of_mem _ h))
theorem need_n {w : World} {p : Program} {loose : List Str} {mean : ExcName → Option Value} {mg mb : Str → Option Value} {dp un : Nat} {gd : Option (List Code)} {cn : Str} {cs : Scope} {a : Addr} {ccd : Value} {cl : List (Str × Addr)} {outer : List Env} {A₀ : Around} {base h₀ : Heap} {L : Addr} {m : Str → Option Value} {news : List (Addr × Obj)} {s : Shared} {Q E : Value → Shared → Prop} {D1 : Addr} {r : Rat} {t1 t1' : Tok} {c1 : Nat}
    (B : Below A₀ base outer h₀) (F : Fr h₀ L s.heap m) (X : (Mine.hd.heap_39 w.params).In h₀) (N : News h₀ L s.heap news) (T : Top p loose mean mg mb h₀) (hk : cs.kind = .function) (e1 : (D1, RatO r t1 t1' c1) ∈ news)
    (hd : dp + 3 < recursionLimit) (hu : un + 100 < cLine) (hx1 : Fits r.num) (hy1 : Fits (r.den : Int)) (h0 : 0 ≤ r.num)
    (hret : ∀ (h' : Heap) (tk' : Nat), Fr h₀ L h' m → News h₀ L h' news → Q (.ref D1) { s with heap := h', toks := tk' }) :
    wpAny (model PySem.Challenge.rw_ui0509_05.row.prog w) (ktrTop dp un gd cn cs L a ccd cl outer) (call (.ref 58) [.ref D1, .ref 35]) Q E s := by
  revert X; k_fill; intro X
  refine wpAny_call ?_
  k_dflt (refine' code_def ?k1 ?k2 ?k3 ?k4 ?k5 ?kA ?kF ?kK ?k6 ?k7 ?k8 ?k9 ?kB ?_ ?c2 ?c3 ?c4 ?c5; (case kA => exact rfl); (case kF => exact rfl); (case kK => assumption); (case k1 => k_asm); (case k2 => k_asm); (case k3 => k_asm); (case k4 => k_asm); (case k5 => k_asm); (case k6 => k_is); (case k7 => k_is); (case k8 => ktr_room); (case k9 => first | exact BindsTo.of_eq rfl | exact binds_K (by k_in) rfl (by k_is) rfl rfl rfl); (case c5 => decide); (case kB => exact locs rfl); (case c2 => exact rfl); (case c3 => exact rfl); (case c4 => exact rfl); k_whole; intro g' L' h' FG' F' N' B' X' T'; (try dsimp only); (try k_fold))
  k_steps
  all_goals exact hret _ _ (by k_asm) (by first | k_asm | exact cb_drop (by k_asm) (fun _ h => List.mem_cons_of_mem _ h))
end
theorem need_cu {w : World} {p : Program} {loose : List Str} {mean : ExcName → Option Value} {mg mb : Str → Option Value} {dp un : Nat} {gd : Option (List Code)} {cn : Str} {cs : Scope} {a : Addr} {ccd : Value} {cl : List (Str × Addr)} {outer : List Env} {A₀ : Around} {base h₀ : Heap} {L : Addr} {m : Str → Option Value} {news : List (Addr × Obj)} {s : Shared} {Q E : Value → Shared → Prop} {D1 : Addr} {r : Rat} {t1 t1' : Tok} {c1 : Nat} {nx ny : Nat}
    (B : Below A₀ base outer h₀) (F : Fr h₀ L s.heap m) (X : (Mine.hd.heap_39 w.params).In h₀) (N : News h₀ L s.heap news) (T : Top p loose mean mg mb h₀) (hk : cs.kind = .function) (e1 : (D1, RatO r t1 t1' c1) ∈ news)
    (hd : dp + 3 < recursionLimit) (hu : un + 100 < cLine) (b1 : Builtin.Int.intBits r.num ≤ nx) (b2 : Builtin.Int.intBits (r.den : Int) ≤ ny) (hnx : nx ≤ 6643) (hny : ny ≤ 6643)
    (hret : ∀ (h' : Heap) (tk' : Nat), Fr h₀ L h' m → News h₀ L h' news → Q (.ref D1) { s with heap := h', toks := tk' }) :
    wpAny (model PySem.Challenge.rw_ui0509_05.row.prog w) (ktrTop dp un gd cn cs L a ccd cl outer) (call (.ref 58) [.ref D1]) Q E s :=
  need_c B F X N T hk e1 hd hu (Fits.of b1 hnx) (Fits.of b2 hny) hret
theorem need_cz {w : World} {p : Program} {loose : List Str} {mean : ExcName → Option Value} {mg mb : Str → Option Value} {dp un : Nat} {gd : Option (List Code)} {cn : Str} {cs : Scope} {a : Addr} {ccd : Value} {cl : List (Str × Addr)} {outer : List Env} {A₀ : Around} {base h₀ : Heap} {L : Addr} {m : Str → Option Value} {news : List (Addr × Obj)} {s : Shared} {Q E : Value → Shared → Prop} {D1 : Addr} {x : Int} {t1 t1' : Tok} {c1 : Nat} {nx : Nat}
    (B : Below A₀ base outer h₀) (F : Fr h₀ L s.heap m) (X : (Mine.hd.heap_39 w.params).In h₀) (N : News h₀ L s.heap news) (T : Top p loose mean mg mb h₀) (hk : cs.kind = .function) (e1 : (D1, T2 x 1 t1 t1' c1) ∈ news)
    (hd : dp + 3 < recursionLimit) (hu : un + 100 < cLine) (b1 : Builtin.Int.intBits x ≤ nx) (hnx : nx ≤ 6643)
    (hret : ∀ (h' : Heap) (tk' : Nat), Fr h₀ L h' m → News h₀ L h' news → Q (.ref D1) { s with heap := h', toks := tk' }) :
    wpAny (model PySem.Challenge.rw_ui0509_05.row.prog w) (ktrTop dp un gd cn cs L a ccd cl outer) (call (.ref 58) [.ref D1]) Q E s :=
  need_c (r := (x : Rat)) (t1 := t1) (t1' := t1') (c1 := c1) B F X N T hk e1 hd hu (Fits.of b1 hnx) fits_one hret
theorem need_nu {w : World} {p : Program} {loose : List Str} {mean : ExcName → Option Value} {mg mb : Str → Option Value} {dp un : Nat} {gd : Option (List Code)} {cn : Str} {cs : Scope} {a : Addr} {ccd : Value} {cl : List (Str × Addr)} {outer : List Env} {A₀ : Around} {base h₀ : Heap} {L : Addr} {m : Str → Option Value} {news : List (Addr × Obj)} {s : Shared} {Q E : Value → Shared → Prop} {D1 : Addr} {r : Rat} {t1 t1' : Tok} {c1 : Nat} {nx ny : Nat}
    (B : Below A₀ base outer h₀) (F : Fr h₀ L s.heap m) (X : (Mine.hd.heap_39 w.params).In h₀) (N : News h₀ L s.heap news) (T : Top p loose mean mg mb h₀) (hk : cs.kind = .function) (e1 : (D1, RatO r t1 t1' c1) ∈ news)
    (hd : dp + 3 < recursionLimit) (hu : un + 100 < cLine) (b1 : Builtin.Int.intBits r.num ≤ nx) (b2 : Builtin.Int.intBits (r.den : Int) ≤ ny) (hnx : nx ≤ 6643) (hny : ny ≤ 6643) (h0 : 0 ≤ r.num)
    (hret : ∀ (h' : Heap) (tk' : Nat), Fr h₀ L h' m → News h₀ L h' news → Q (.ref D1) { s with heap := h', toks := tk' }) :
    wpAny (model PySem.Challenge.rw_ui0509_05.row.prog w) (ktrTop dp un gd cn cs L a ccd cl outer) (call (.ref 58) [.ref D1, .ref 35]) Q E s :=
  need_n B F X N T hk e1 hd hu (Fits.of b1 hnx) (Fits.of b2 hny) h0 hret
theorem need_nz {w : World} {p : Program} {loose : List Str} {mean : ExcName → Option Value} {mg mb : Str → Option Value} {dp un : Nat} {gd : Option (List Code)} {cn : Str} {cs : Scope} {a : Addr} {ccd : Value} {cl : List (Str × Addr)} {outer : List Env} {A₀ : Around} {base h₀ : Heap} {L : Addr} {m : Str → Option Value} {news : List (Addr × Obj)} {s : Shared} {Q E : Value → Shared → Prop} {D1 : Addr} {x : Int} {t1 t1' : Tok} {c1 : Nat} {nx : Nat}
    (B : Below A₀ base outer h₀) (F : Fr h₀ L s.heap m) (X : (Mine.hd.heap_39 w.params).In h₀) (N : News h₀ L s.heap news) (T : Top p loose mean mg mb h₀) (hk : cs.kind = .function) (e1 : (D1, T2 x 1 t1 t1' c1) ∈ news)
    (hd : dp + 3 < recursionLimit) (hu : un + 100 < cLine) (b1 : Builtin.Int.intBits x ≤ nx) (hnx : nx ≤ 6643) (h0 : 0 ≤ x)
    (hret : ∀ (h' : Heap) (tk' : Nat), Fr h₀ L h' m → News h₀ L h' news → Q (.ref D1) { s with heap := h', toks := tk' }) :
    wpAny (model PySem.Challenge.rw_ui0509_05.row.prog w) (ktrTop dp un gd cn cs L a ccd cl outer) (call (.ref 58) [.ref D1, .ref 35]) Q E s :=
  need_n (r := (x : Rat)) (t1 := t1) (t1' := t1') (c1 := c1) B F X N T hk e1 hd hu (Fits.of b1 hnx) fits_one h0 hret
theorem mod_gen {prog : Program} {w : World} {A : Around} {E : Value → Shared → Prop} {s : Shared} {a n : Int} {t u : Tok} {Q : Value → Shared → Prop} (hn : 0 < n)
    (h : ∀ v : Int, 0 ≤ v → v < n → v = a.fmod n → Q (.int v s.toks) { s with toks := s.toks + 1 }) : wpAny (model prog w) A (binaryOp .Mod (.int a t) (.int n u)) Q E s := by
  have e : a.fmod n = a % n := Int.fmod_eq_emod_of_nonneg a (by omega)
  exact mod_int' (by omega) (h _ (by rw [e]; exact Int.emod_nonneg a (by omega)) (by rw [e]; exact Int.emod_lt_of_pos a hn) rfl)
def Hold (P : Prop) : Prop := P
theorem Hold.out {P : Prop} (h : Hold P) : P := h
inductive Final : Prop where
  | mk : Final
theorem good_true {cl : Str → Option Addr} {mean : ExcName → Option Value} {ns : List Int} {s₁ s' : Shared} {L : Addr} {m : Str → Option Value} (F : Fr s₁.heap L s'.heap m) (hg : s'.gens = #[]) (hos : s'.os = s₁.os) :
    GoodW PySem.Challenge.rw_ui0509_05.row.claim cl mean [ofPy (PyData.list (ns.map PyData.int))] s₁ (.ok (.ret (.bool true))) s' := by
  refine goodW_bool F hg (fun _ => rfl) (postW_of rfl ?_ rfl) hos
  first | (with_unfolding_all exact w_eq_bool (w_res rfl) w_lit) | rfl | simp [WTm.value] | wtm_val
theorem int_rat {r : Rat} {x : Int} (h : r = (x : Rat)) : (r.num == x && (r.den : Int) == 1) = true := by subst h; simp
theorem head_any {a d t k : Int} {p q r : Rat} (hr : r = Rat.divInt (t * q.den + q.num * 1) (1 * q.den)) (hq : q = Rat.divInt (p.num * k) (p.den * 1)) (hp : p = Rat.divInt (a * 1) (1 * d)) : r = (t : Rat) + ((a : Rat) / (d : Rat)) * (k : Rat) := by
  have e1 : r = (t : Rat) + q := hr.trans (r_plus (t : Rat) q)
  have e2 : q = p * (k : Rat) := hq.trans (r_times p (k : Rat))
  have e3 : p = (a : Rat) / (d : Rat) := hp.trans (r_over (a : Rat) (d : Rat))
  rw [e1, e2, e3]
theorem e05a {a d t k : Int} {p q r : Rat} (hr : r = Rat.divInt (t * q.den + q.num * 1) (1 * q.den)) (hq : q = Rat.divInt (p.num * k) (p.den * 1)) (hp : p = Rat.divInt (a * 1) (1 * d)) (ha : a = 0) : (r.num == t && (r.den : Int) == 1) = true := by
  have h := head_any hr hq hp
  subst ha
  refine int_rat (h.trans ?_)
  have : ((0 : Int) : Rat) = 0 := rfl
  rw [this]
  grind
theorem cast_nz {d : Int} (h : d ≠ 0) : (d : Rat) ≠ 0 := fun e => h (Rat.intCast_inj.mp (e : (d : Rat) = ((0 : Int) : Rat)))
theorem e05b {a d t k x : Int} {p q r : Rat} (hr : r = Rat.divInt (t * q.den + q.num * 1) (1 * q.den)) (hq : q = Rat.divInt (p.num * k) (p.den * 1)) (hp : p = Rat.divInt (a * 1) (1 * d)) (hd : d ≠ 0) (ha : a = d) (hx : x = t + k) : (r.num == x && (r.den : Int) == 1) = true := by
  have h := head_any hr hq hp
  subst ha hx
  refine int_rat (h.trans ?_)
  have h1 := cast_nz hd
  rw [Rat.intCast_add]
  grind
theorem d_pos {x y : Int} (h : 0 ≤ y) : x + 1 + y - x ≠ 0 := by omega
theorem t_same {t v v' f : Int} (h : v = f) (h' : v' = f) : t - 1 - v' = t + (t - 1 - v - t) := by omega
theorem no_false {cl : ClaimW} {ca : Str → Option Addr} {me : ExcName → Option Value} {args : List WData} {s₁ s : Shared} {b : Bool} {R : Result} (h : b = false) (h' : b = true) : GoodW cl ca me args s₁ R s := by rw [h] at h'; cases h'
end Mine
open Mine
local macro_rules | `(tactic| kc_close) => `(tactic| ((fail_if_success (rename Final => fin')); (with_reducible show GoodW _ _ _ _ _ _ _); refine Hold.out ?_))
local macro_rules | `(tactic| wrow_close) => `(tactic| ((fail_if_success (rename Final => fin')); (with_reducible show GoodW _ _ _ _ _ _ _); refine Hold.out ?_))
local macro_rules | `(tactic| bits_by_make) => `(tactic| with_reducible assumption)
local macro_rules | `(tactic| walk_at "binaryOp Mod int int") => `(tactic| (k_here; (with_reducible refine mod_gen ?mp ?_); (case mp => decide); intro v' v0' v1' vE'))
local macro_rules | `(tactic| walk_at "call ref") => `(tactic| (k_here; (with_reducible show wpAny _ _ (call (Value.ref 50) [Value.int _ _, Value.int _ _]) _ _ _); k_dflt (refine' frac_use ?k1 ?k2 ?k3 ?k4 ?k5 ?k6 ?k7 ?k8 ?k9 ?k10 ?k11 ?k12 ?k13 ?_; (case k1 => k_asm); (case k2 => k_asm); (case k3 => k_asm); (case k4 => k_asm); (case k5 => k_asm); (case k6 => first | exact rfl | assumption); (case k7 => first | exact Nat.le_of_ble_eq_true rfl | ktr_room); (case k8 => first | exact Nat.le_of_ble_eq_true rfl | ktr_units); (case k10 => bits_by_make); (case k11 => bits_by_make); (case k12 => decide); (case k13 => decide); (case k9 => first | exact nzden _ | omega | ((try k_fmods); omega) | (refine nzmul ?_ ?_ <;> first | exact nzden _ | omega)); k_whole); intro r' D' t' u' c' h' tk' rE' rN' rD' F' N' l1; (try k_lt l1); (try k_sweep)))
local macro_rules | `(tactic| walk_at "call ref") => `(tactic| (k_here; (with_reducible show wpAny _ _ (call (Value.ref 50) [Value.int (Rat.num _) _, Value.int _ _]) _ _ _); k_dflt (refine' frac_self ?k1 ?k2 ?k3 ?k4 ?k5 ?k6 ?k7 ?k8 ?k10 ?k11 ?k12 ?k13 ?_; (case k1 => k_asm); (case k2 => k_asm); (case k3 => k_asm); (case k4 => k_asm); (case k5 => k_asm); (case k6 => first | exact rfl | assumption); (case k7 => first | exact Nat.le_of_ble_eq_true rfl | ktr_room); (case k8 => first | exact Nat.le_of_ble_eq_true rfl | ktr_units); (case k10 => bits_by_make); (case k11 => bits_by_make); (case k12 => decide); (case k13 => decide); k_whole); intro D' t' u' c' h' tk' F' N' l1; (try k_lt l1); (try k_sweep)))
local macro_rules | `(tactic| walk_at "call ref") => `(tactic| (k_here; (with_reducible show wpAny _ _ (call (Value.ref 50) [Value.int _ _, Value.int 1 _]) _ _ _); k_dflt (refine' frac_one ?k1 ?k2 ?k3 ?k4 ?k5 ?k6 ?k7 ?k8 ?k10 ?k12 ?_; (case k1 => k_asm); (case k2 => k_asm); (case k3 => k_asm); (case k4 => k_asm); (case k5 => k_asm); (case k6 => first | exact rfl | assumption); (case k7 => first | exact Nat.le_of_ble_eq_true rfl | ktr_room); (case k8 => first | exact Nat.le_of_ble_eq_true rfl | ktr_units); (case k10 => bits_by_make); (case k12 => decide); k_whole); intro D' t' u' c' h' tk' F' N' l1; (try k_lt l1); (try k_sweep)))
local macro_rules | `(tactic| walk_at "call ref") => `(tactic| (k_here; (with_reducible show wpAny _ _ (call (Value.ref 50) [Value.int _ _]) _ _ _); k_dflt (refine' frac_dflt ?k1 ?k2 ?k3 ?k4 ?k5 ?k6 ?k7 ?k8 ?k10 ?k12 ?_; (case k1 => k_asm); (case k2 => k_asm); (case k3 => k_asm); (case k4 => k_asm); (case k5 => k_asm); (case k6 => first | exact rfl | assumption); (case k7 => first | exact Nat.le_of_ble_eq_true rfl | ktr_room); (case k8 => first | exact Nat.le_of_ble_eq_true rfl | ktr_units); (case k10 => bits_by_make); (case k12 => decide); k_whole); intro D' t' u' c' h' tk' F' N' l1; (try k_lt l1); (try k_sweep)))
local macro_rules | `(tactic| walk_at "call ref") => `(tactic| (k_here; (with_reducible show wpAny _ _ (call (Value.ref 65) [Value.ref _, Value.ref _]) _ _ _); k_dflt (refine' plus_u ?k1 ?k2 ?k3 ?k4 ?k5 ?k6 ?m1 ?m2 ?k7 ?k8 ?ny ?nz ?b1 ?b2 ?b3 ?b4 ?z1 ?z2 ?_; (case k1 => k_asm); (case k2 => k_asm); (case k3 => k_asm); (case k4 => k_asm); (case k5 => k_asm); (case k6 => first | exact rfl | assumption); (case k7 => first | exact Nat.le_of_ble_eq_true rfl | ktr_room); (case k8 => first | exact Nat.le_of_ble_eq_true rfl | ktr_units); (case m1 => k_mem); (case m2 => k_mem); (case ny => first | exact nzden _ | decide | omega); (case nz => first | exact nzden _ | decide | omega); (case b1 => bits_by_make); (case b2 => bits_by_make); (case b3 => bits_by_make); (case b4 => bits_by_make); (case z1 => decide); (case z2 => decide); k_whole); intro r' D' t' u' c' h' tk' rE' rN' rD' F' N' l1; (try k_lt l1); (try k_sweep)))
local macro_rules | `(tactic| walk_at "call ref") => `(tactic| (k_here; (with_reducible show wpAny _ _ (call (Value.ref 65) [Value.ref _, Value.ref _]) _ _ _); k_dflt (refine' plus_z ?k1 ?k2 ?k3 ?k4 ?k5 ?k6 ?m1 ?m2 ?k7 ?k8 ?b1 ?b3 ?z1 ?_; (case k1 => k_asm); (case k2 => k_asm); (case k3 => k_asm); (case k4 => k_asm); (case k5 => k_asm); (case k6 => first | exact rfl | assumption); (case k7 => first | exact Nat.le_of_ble_eq_true rfl | ktr_room); (case k8 => first | exact Nat.le_of_ble_eq_true rfl | ktr_units); (case m1 => k_mem); (case m2 => k_mem); (case b1 => bits_by_make); (case b3 => bits_by_make); (case z1 => decide); k_whole); intro D' t' u' c' h' tk' F' N' l1; (try k_lt l1); (try k_sweep)))
local macro_rules | `(tactic| walk_at "call ref") => `(tactic| (k_here; (with_reducible show wpAny _ _ (call (Value.ref 72) [Value.ref _, Value.ref _]) _ _ _); k_dflt (refine' minus_u ?k1 ?k2 ?k3 ?k4 ?k5 ?k6 ?m1 ?m2 ?k7 ?k8 ?ny ?nz ?b1 ?b2 ?b3 ?b4 ?z1 ?z2 ?_; (case k1 => k_asm); (case k2 => k_asm); (case k3 => k_asm); (case k4 => k_asm); (case k5 => k_asm); (case k6 => first | exact rfl | assumption); (case k7 => first | exact Nat.le_of_ble_eq_true rfl | ktr_room); (case k8 => first | exact Nat.le_of_ble_eq_true rfl | ktr_units); (case m1 => k_mem); (case m2 => k_mem); (case ny => first | exact nzden _ | decide | omega); (case nz => first | exact nzden _ | decide | omega); (case b1 => bits_by_make); (case b2 => bits_by_make); (case b3 => bits_by_make); (case b4 => bits_by_make); (case z1 => decide); (case z2 => decide); k_whole); intro r' D' t' u' c' h' tk' rE' rN' rD' F' N' l1; (try k_lt l1); (try k_sweep)))
local macro_rules | `(tactic| walk_at "call ref") => `(tactic| (k_here; (with_reducible show wpAny _ _ (call (Value.ref 72) [Value.ref _, Value.ref _]) _ _ _); k_dflt (refine' minus_z ?k1 ?k2 ?k3 ?k4 ?k5 ?k6 ?m1 ?m2 ?k7 ?k8 ?b1 ?b3 ?z1 ?_; (case k1 => k_asm); (case k2 => k_asm); (case k3 => k_asm); (case k4 => k_asm); (case k5 => k_asm); (case k6 => first | exact rfl | assumption); (case k7 => first | exact Nat.le_of_ble_eq_true rfl | ktr_room); (case k8 => first | exact Nat.le_of_ble_eq_true rfl | ktr_units); (case m1 => k_mem); (case m2 => k_mem); (case b1 => bits_by_make); (case b3 => bits_by_make); (case z1 => decide); k_whole); intro D' t' u' c' h' tk' F' N' l1; (try k_lt l1); (try k_sweep)))
local macro_rules | `(tactic| walk_at "call ref") => `(tactic| (k_here; (with_reducible show wpAny _ _ (call (Value.ref 79) [Value.ref _, Value.ref _]) _ _ _); k_dflt (refine' times_u ?k1 ?k2 ?k3 ?k4 ?k5 ?k6 ?m1 ?m2 ?k7 ?k8 ?ny ?nz ?b1 ?b2 ?b3 ?b4 ?z1 ?z2 ?_; (case k1 => k_asm); (case k2 => k_asm); (case k3 => k_asm); (case k4 => k_asm); (case k5 => k_asm); (case k6 => first | exact rfl | assumption); (case k7 => first | exact Nat.le_of_ble_eq_true rfl | ktr_room); (case k8 => first | exact Nat.le_of_ble_eq_true rfl | ktr_units); (case m1 => k_mem); (case m2 => k_mem); (case ny => first | exact nzden _ | decide | omega); (case nz => first | exact nzden _ | decide | omega); (case b1 => bits_by_make); (case b2 => bits_by_make); (case b3 => bits_by_make); (case b4 => bits_by_make); (case z1 => decide); (case z2 => decide); k_whole); intro r' D' t' u' c' h' tk' rE' rN' rD' F' N' l1; (try k_lt l1); (try k_sweep)))
local macro_rules | `(tactic| walk_at "call ref") => `(tactic| (k_here; (with_reducible show wpAny _ _ (call (Value.ref 79) [Value.ref _, Value.ref _]) _ _ _); k_dflt (refine' times_z ?k1 ?k2 ?k3 ?k4 ?k5 ?k6 ?m1 ?m2 ?k7 ?k8 ?b1 ?b3 ?z1 ?_; (case k1 => k_asm); (case k2 => k_asm); (case k3 => k_asm); (case k4 => k_asm); (case k5 => k_asm); (case k6 => first | exact rfl | assumption); (case k7 => first | exact Nat.le_of_ble_eq_true rfl | ktr_room); (case k8 => first | exact Nat.le_of_ble_eq_true rfl | ktr_units); (case m1 => k_mem); (case m2 => k_mem); (case b1 => bits_by_make); (case b3 => bits_by_make); (case z1 => decide); k_whole); intro D' t' u' c' h' tk' F' N' l1; (try k_lt l1); (try k_sweep)))
local macro_rules | `(tactic| walk_at "call ref") => `(tactic| (k_here; (with_reducible show wpAny _ _ (call (Value.ref 86) [Value.ref _, Value.ref _]) _ _ _); k_dflt (refine' over_u ?k1 ?k2 ?k3 ?k4 ?k5 ?k6 ?m1 ?m2 ?k7 ?k8 ?ny ?nz ?b1 ?b2 ?b3 ?b4 ?z1 ?z2 ?_; (case k1 => k_asm); (case k2 => k_asm); (case k3 => k_asm); (case k4 => k_asm); (case k5 => k_asm); (case k6 => first | exact rfl | assumption); (case k7 => first | exact Nat.le_of_ble_eq_true rfl | ktr_room); (case k8 => first | exact Nat.le_of_ble_eq_true rfl | ktr_units); (case m1 => k_mem); (case m2 => k_mem); (case ny => first | exact nzden _ | decide | omega); (case nz => first | exact nzden _ | decide | omega); (case b1 => bits_by_make); (case b2 => bits_by_make); (case b3 => bits_by_make); (case b4 => bits_by_make); (case z1 => decide); (case z2 => decide); k_whole); intro r' D' t' u' c' h' tk' rE' rN' rD' F' N' l1; (try k_lt l1); (try k_sweep)))
local macro_rules | `(tactic| walk_at "call ref") => `(tactic| (k_here; (with_reducible show wpAny _ _ (call (Value.ref 93) [Value.ref _, Value.ref _]) _ _ _); k_dflt (refine' less_u ?k1 ?k2 ?k3 ?k4 ?k5 ?k6 ?m1 ?m2 ?k7 ?k8 ?b1 ?b2 ?b3 ?b4 ?z1 ?z2 ?_; (case k1 => k_asm); (case k2 => k_asm); (case k3 => k_asm); (case k4 => k_asm); (case k5 => k_asm); (case k6 => first | exact rfl | assumption); (case k7 => first | exact Nat.le_of_ble_eq_true rfl | ktr_room); (case k8 => first | exact Nat.le_of_ble_eq_true rfl | ktr_units); (case m1 => k_mem); (case m2 => k_mem); (case b1 => bits_by_make); (case b2 => bits_by_make); (case b3 => bits_by_make); (case b4 => bits_by_make); (case z1 => decide); (case z2 => decide); k_whole); intro h' tk' F' N'; (try k_sweep)))
local macro_rules | `(tactic| walk_at "call ref") => `(tactic| (k_here; (with_reducible show wpAny _ _ (call (Value.ref 93) [Value.ref _, Value.ref _]) _ _ _); k_dflt (refine' less_z ?k1 ?k2 ?k3 ?k4 ?k5 ?k6 ?m1 ?m2 ?k7 ?k8 ?b1 ?b3 ?z1 ?z2 ?_; (case k1 => k_asm); (case k2 => k_asm); (case k3 => k_asm); (case k4 => k_asm); (case k5 => k_asm); (case k6 => first | exact rfl | assumption); (case k7 => first | exact Nat.le_of_ble_eq_true rfl | ktr_room); (case k8 => first | exact Nat.le_of_ble_eq_true rfl | ktr_units); (case m1 => k_mem); (case m2 => k_mem); (case b1 => bits_by_make); (case b3 => bits_by_make); (case z1 => decide); (case z2 => decide); k_whole); intro h' tk' F' N'; (try k_sweep)))
local macro_rules | `(tactic| walk_at "call ref") => `(tactic| (k_here; (with_reducible show wpAny _ _ (call (Value.ref 100) [Value.ref _, Value.ref _]) _ _ _); k_dflt (refine' at_most_u ?k1 ?k2 ?k3 ?k4 ?k5 ?k6 ?m1 ?m2 ?k7 ?k8 ?b1 ?b2 ?b3 ?b4 ?z1 ?z2 ?_; (case k1 => k_asm); (case k2 => k_asm); (case k3 => k_asm); (case k4 => k_asm); (case k5 => k_asm); (case k6 => first | exact rfl | assumption); (case k7 => first | exact Nat.le_of_ble_eq_true rfl | ktr_room); (case k8 => first | exact Nat.le_of_ble_eq_true rfl | ktr_units); (case m1 => k_mem); (case m2 => k_mem); (case b1 => bits_by_make); (case b2 => bits_by_make); (case b3 => bits_by_make); (case b4 => bits_by_make); (case z1 => decide); (case z2 => decide); k_whole); intro h' tk' F' N'; (try k_sweep)))
local macro_rules | `(tactic| walk_at "call ref") => `(tactic| (k_here; (with_reducible show wpAny _ _ (call (Value.ref 100) [Value.ref _, Value.ref _]) _ _ _); k_dflt (refine' at_most_z ?k1 ?k2 ?k3 ?k4 ?k5 ?k6 ?m1 ?m2 ?k7 ?k8 ?b1 ?b3 ?z1 ?z2 ?_; (case k1 => k_asm); (case k2 => k_asm); (case k3 => k_asm); (case k4 => k_asm); (case k5 => k_asm); (case k6 => first | exact rfl | assumption); (case k7 => first | exact Nat.le_of_ble_eq_true rfl | ktr_room); (case k8 => first | exact Nat.le_of_ble_eq_true rfl | ktr_units); (case m1 => k_mem); (case m2 => k_mem); (case b1 => bits_by_make); (case b3 => bits_by_make); (case z1 => decide); (case z2 => decide); k_whole); intro h' tk' F' N'; (try k_sweep)))
local macro_rules | `(tactic| walk_at "call ref") => `(tactic| (k_here; (with_reducible show wpAny _ _ (call (Value.ref 58) [Value.ref _]) _ _ _); k_dflt (refine' need_cu ?k1 ?k2 ?k3 ?k4 ?k5 ?k6 ?m1 ?k7 ?k8 ?b1 ?b2 ?z1 ?z2 ?_; (case k1 => k_asm); (case k2 => k_asm); (case k3 => k_asm); (case k4 => k_asm); (case k5 => k_asm); (case k6 => first | exact rfl | assumption); (case k7 => first | exact Nat.le_of_ble_eq_true rfl | ktr_room); (case k8 => first | exact Nat.le_of_ble_eq_true rfl | ktr_units); (case m1 => k_mem); (case b1 => bits_by_make); (case b2 => bits_by_make); (case z1 => decide); (case z2 => decide); k_whole); intro h' tk' F' N'; (try k_sweep)))
local macro_rules | `(tactic| walk_at "call ref") => `(tactic| (k_here; (with_reducible show wpAny _ _ (call (Value.ref 58) [Value.ref _]) _ _ _); k_dflt (refine' need_cz ?k1 ?k2 ?k3 ?k4 ?k5 ?k6 ?m1 ?k7 ?k8 ?b1 ?z1 ?_; (case k1 => k_asm); (case k2 => k_asm); (case k3 => k_asm); (case k4 => k_asm); (case k5 => k_asm); (case k6 => first | exact rfl | assumption); (case k7 => first | exact Nat.le_of_ble_eq_true rfl | ktr_room); (case k8 => first | exact Nat.le_of_ble_eq_true rfl | ktr_units); (case m1 => k_mem); (case b1 => bits_by_make); (case z1 => decide); k_whole); intro h' tk' F' N'; (try k_sweep)))
local macro_rules | `(tactic| walk_at "call ref") => `(tactic| (k_here; (with_reducible show wpAny _ _ (call (Value.ref 58) [Value.ref _, Value.ref 35]) _ _ _); k_dflt (refine' need_nu ?k1 ?k2 ?k3 ?k4 ?k5 ?k6 ?m1 ?k7 ?k8 ?b1 ?b2 ?z1 ?z2 ?h0 ?_; (case k1 => k_asm); (case k2 => k_asm); (case k3 => k_asm); (case k4 => k_asm); (case k5 => k_asm); (case k6 => first | exact rfl | assumption); (case k7 => first | exact Nat.le_of_ble_eq_true rfl | ktr_room); (case k8 => first | exact Nat.le_of_ble_eq_true rfl | ktr_units); (case m1 => k_mem); (case b1 => bits_by_make); (case b2 => bits_by_make); (case z1 => decide); (case z2 => decide); (case h0 => omega); k_whole); intro h' tk' F' N'; (try k_sweep)))
local macro_rules | `(tactic| walk_at "call ref") => `(tactic| (k_here; (with_reducible show wpAny _ _ (call (Value.ref 58) [Value.ref _, Value.ref 35]) _ _ _); k_dflt (refine' need_nz ?k1 ?k2 ?k3 ?k4 ?k5 ?k6 ?m1 ?k7 ?k8 ?b1 ?z1 ?h0 ?_; (case k1 => k_asm); (case k2 => k_asm); (case k3 => k_asm); (case k4 => k_asm); (case k5 => k_asm); (case k6 => first | exact rfl | assumption); (case k7 => first | exact Nat.le_of_ble_eq_true rfl | ktr_room); (case k8 => first | exact Nat.le_of_ble_eq_true rfl | ktr_units); (case m1 => k_mem); (case b1 => bits_by_make); (case z1 => decide); (case h0 => omega); k_whole); intro h' tk' F' N'; (try k_sweep)))
set_option maxRecDepth 100000 in
set_option maxHeartbeats 8000000 in
theorem PySem.Challenge.cw_ui0509_05_holds : PySem.Challenge.rw_ui0509_05.Holds :=
  Mine.hd (by
  k_go0; (all_goals try k_fold); k_steps
  all_goals (try unfold Hold)
  all_goals (try dsimp only)
  all_goals first
    | (with_reducible show GoodW _ _ _ _ _ (Except.ok (Flow.ret (Value.bool true))) _; exact good_true (by assumption) (by assumption) rfl)
    | (with_reducible show GoodW _ _ _ _ _ (Except.ok (Flow.ret (Value.bool false))) _; exact no_false (by with_reducible assumption) (e05a (by with_reducible assumption) (by with_reducible assumption) (by with_reducible assumption) (Int.sub_self _)))
    | (refine ok_bool (e05b (by with_reducible assumption) (by with_reducible assumption) (by with_reducible assumption) (d_pos (by with_reducible assumption)) rfl (t_same (by with_reducible assumption) (by with_reducible assumption))) ?_; exact good_true (by assumption) (by assumption) rfl))
