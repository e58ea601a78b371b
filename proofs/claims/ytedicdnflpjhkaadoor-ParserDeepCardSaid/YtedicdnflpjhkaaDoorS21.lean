/- Brackets and signs in one another: what is read. No condition: plain Lean, no program's code in sight. -/
import Derived.Test.YtedicdnflpjhkaaDoorS20
set_option linter.unusedSimpArgs false
set_option linter.unusedVariables false
set_option maxRecDepth 100000
set_option maxHeartbeats 1000000
namespace Go.Proofs.YtedicdnflpjhkaaDoor
open Go.Aw
def sg (c : UInt8) : Nat → Nat → List Tk
  | 0, _ => []
  | n + 1, a => ⟨3, a, [c], 0⟩ :: sg c n (a + 1)
def one1 (a : Nat) : Tk := ⟨2, a, [49], 1⟩
theorem lex_sign (s : List UInt8) (f a : Nat) (c : UInt8) (h : s[a]? = some c) (hc : c = 45 ∨ c = 40 ∨ c = 41) : lexF s (f + 1) a = (lexF s f (a + 1)).map (⟨3, a, [c], 0⟩ :: ·) := by
  obtain ⟨hlt, hget⟩ := List.getElem?_eq_some_iff.1 h
  have hd : s.drop a = c :: s.drop (a + 1) := by rw [List.drop_eq_getElem_cons hlt, hget]
  have hg : gapG false (s.drop a) = 0 := by rw [hd]; rcases hc with rfl | rfl | rfl <;> rfl
  have hgd : s.getD a 0 = c := by simp [List.getD, h]
  have hk : kindL (c.toNat : Int) = 3 := by rcases hc with rfl | rfl | rfl <;> decide
  have hm : manyL 3 (s.drop a) = 1 := by simp [manyL]
  have ht : (s.drop a).take 1 = [c] := by rw [hd]; rfl
  rw [lexF]
  simp only [hg, Nat.add_zero, hgd, hk, hm, ht]
  rw [if_neg (by omega), if_neg (by omega)]
  cases lexF s f (a + 1) <;> simp
theorem lex_one (s : List UInt8) (f a : Nat) (h : s[a]? = some 49) (hn : runL 2 (s.drop a) = 1) : lexF s (f + 1) a = (lexF s f (a + 1)).map (one1 a :: ·) := by
  obtain ⟨hlt, hget⟩ := List.getElem?_eq_some_iff.1 h
  have hd : s.drop a = 49 :: s.drop (a + 1) := by rw [List.drop_eq_getElem_cons hlt, hget]
  have hg : gapG false (s.drop a) = 0 := by rw [hd]; rfl
  have hgd : s.getD a 0 = 49 := by simp [List.getD, h]
  have hk : kindL ((49 : UInt8).toNat : Int) = 2 := by decide
  have hm : manyL 2 (s.drop a) = 1 := by simp [manyL, hn]
  have ht : (s.drop a).take 1 = [49] := by rw [hd]; rfl
  have hnum : numL [49] = 1 := by decide
  rw [lexF]
  simp only [hg, Nat.add_zero, hgd, hk, hm, ht, hnum]
  rw [if_neg (by omega), if_neg (by omega)]
  cases lexF s f (a + 1) <;> simp [one1]
theorem lex_run (s : List UInt8) (c : UInt8) (hc : c = 45 ∨ c = 40 ∨ c = 41) (f : Nat) : ∀ (n a : Nat), (∀ i, i < n → s[a + i]? = some c) → lexF s (f + n) a = (lexF s f (a + n)).map (sg c n a ++ ·)
  | 0, a, _ => by simp [sg]
  | n + 1, a, h => by
    have ih := lex_run s c hc f n (a + 1) (fun i hi => by have := h (i + 1) (by omega); rw [← this]; congr 1; omega)
    rw [show f + (n + 1) = (f + n) + 1 from rfl, lex_sign s (f + n) a c (by simpa using h 0 (by omega)) hc, ih, show a + 1 + n = a + (n + 1) by omega]
    cases lexF s f (a + (n + 1)) <;> simp [sg]
theorem lex_end (s : List UInt8) (f : Nat) : lexF s (f + 1) s.length = some [] := by
  rw [lexF]; simp [gapG]
def txt (o : UInt8) (m k : Nat) : List UInt8 := List.replicate m o ++ ([49] ++ List.replicate k 41)
theorem txt_length (o : UInt8) (m k : Nat) : (txt o m k).length = m + (1 + k) := by simp [txt]; omega
theorem lex_txt (o : UInt8) (ho : o = 45 ∨ o = 40 ∨ o = 41) (m k f : Nat) : lexF (txt o m k) (f + 1 + k + 1 + m) 0 = some (sg o m 0 ++ one1 m :: sg 41 k (m + 1)) := by
  rw [lex_run (txt o m k) o ho _ m 0 (fun i hi => by simp [txt, List.getElem?_append, hi])]
  rw [Nat.zero_add, lex_one (txt o m k) _ m (by simp [txt, List.getElem?_append]) (by
    have : (txt o m k).drop m = 49 :: List.replicate k 41 := by simp [txt, List.drop_append]
    rw [this]
    cases k with
    | zero => decide
    | succ k =>
      have e1 : kindL (((49 : UInt8).toNat : Nat) : Int) = 2 := by decide
      have e2 : ¬ kindL (((41 : UInt8).toNat : Nat) : Int) = 2 := by decide
      simp only [List.replicate_succ, runL, List.takeWhile_cons, e1, e2, decide_true, decide_false, if_true, Bool.false_eq_true, if_false]; rfl)]
  rw [lex_run (txt o m k) 41 (by simp) _ k (m + 1) (fun i hi => by
    rw [txt, List.getElem?_append_right (by simp; omega)]
    simp only [List.length_replicate]
    rw [show m + 1 + i - m = i + 1 by omega]
    simp [hi])]
  rw [show m + 1 + k = (txt o m k).length by rw [txt_length]; omega, lex_end]
  simp
def neg : Nat → Ex
  | 0 => .mk 1 1 [] [] []
  | n + 1 => .mk 6 0 [] [] [neg n]
theorem mayF_sg (c : UInt8) (ss : List (List UInt8)) (a n : Nat) (R : List Tk) (h : ss.any (fun s => decide ([c] = s)) = true) : mayF ss (sg c (n + 1) a ++ R) = ([c], true, sg c n (a + 1) ++ R) := by
  simp only [sg, List.cons_append, mayF, isF, h]; simp
theorem mayF_sgn (c : UInt8) (ss : List (List UInt8)) (a n : Nat) (R : List Tk) (h : ss.any (fun s => decide ([c] = s)) = false) : (mayF ss (sg c (n + 1) a ++ R)).2.1 = false := by
  simp only [sg, List.cons_append, mayF, isF, h]; simp
theorem hereF_sg (c : UInt8) (a n e : Nat) (R : List Tk) : hereF (sg c (n + 1) a ++ R) e = a := rfl
theorem term_deep (e : Nat) (R : List Tk) : ∀ (k n a d f : Nat), d + k = 64 → k < n → k < f → termF e f (sg 45 n a ++ R) d = some (.bad (a + k) 82)
  | 0, n, a, d, f, hd, hn, hf => by
    obtain ⟨f, rfl⟩ : ∃ g, f = g + 1 := ⟨f - 1, by omega⟩
    obtain ⟨n, rfl⟩ : ∃ g, n = g + 1 := ⟨n - 1, by omega⟩
    rw [termF, if_pos (by omega), hereF_sg]; rfl
  | k + 1, n, a, d, f, hd, hn, hf => by
    obtain ⟨f, rfl⟩ : ∃ g, f = g + 1 := ⟨f - 1, by omega⟩
    obtain ⟨n, rfl⟩ : ∃ g, n = g + 1 := ⟨n - 1, by omega⟩
    rw [termF, if_neg (by omega), mayF_sg 45 _ a n R (by decide), if_pos rfl]
    simp only
    rw [term_deep e R k n (a + 1) (d + 1) f (by omega) (by omega) (by omega), show a + 1 + k = a + (k + 1) by omega]
theorem prim_one (e p d f : Nat) (R : List Tk) : primF e (f + 1) (one1 p :: R) d = some (.ok (neg 0) R) := by
  rw [primF]; rfl
theorem term_one (e p d f : Nat) (R : List Tk) (hd : d < 64) : termF e (f + 2) (one1 p :: R) d = some (.ok (neg 0) R) := by
  rw [termF, if_neg (by omega)]
  have : (mayF [[45]] (one1 p :: R)).2.1 = false := rfl
  rw [this, if_neg Bool.false_ne_true, prim_one]
theorem term_neg (e p : Nat) : ∀ (n a d f : Nat), d + n < 64 → n + 2 ≤ f → termF e f (sg 45 n a ++ [one1 p]) d = some (.ok (neg n) [])
  | 0, a, d, f, hd, hf => by
    obtain ⟨f, rfl⟩ : ∃ g, f = g + 2 := ⟨f - 2, by omega⟩
    exact term_one e p d f [] (by omega)
  | n + 1, a, d, f, hd, hf => by
    obtain ⟨f, rfl⟩ : ∃ g, f = g + 1 := ⟨f - 1, by omega⟩
    rw [termF, if_neg (by omega), mayF_sg 45 _ a n _ (by decide), if_pos rfl]
    simp only
    rw [term_neg e p n (a + 1) (d + 1) f (by omega) (by omega)]; rfl
theorem loop_nil (e f d : Nat) (x : Ex) : loopF e (f + 1) x [] d = some (.ok x []) := by rw [loopF]; rfl
theorem loop_shut (e f d n a : Nat) (x : Ex) : loopF e (f + 1) x (sg 41 n a) d = some (.ok x (sg 41 n a)) := by
  cases n with
  | zero => exact loop_nil e f d x
  | succ n =>
    have : (mayF [[43], [45]] (sg 41 (n + 1) a)).2.1 = false := by have := mayF_sgn 41 [[43], [45]] a n [] (by decide); simpa using this
    rw [loopF, this, if_neg Bool.false_ne_true]
theorem expr_open (e p : Nat) : ∀ (n a d q j f : Nat), d + n < 64 → 3 * n + 3 ≤ f → exprF e f (sg 40 n a ++ one1 p :: sg 41 (n + j) q) d = some (.ok (neg 0) (sg 41 j (q + n)))
  | 0, a, d, q, j, f, hd, hf => by
    obtain ⟨f, rfl⟩ : ∃ g, f = g + 3 := ⟨f - 3, by omega⟩
    rw [exprF]
    have : sg 40 0 a ++ one1 p :: sg 41 (0 + j) q = one1 p :: sg 41 j q := by rw [Nat.zero_add]; rfl
    rw [this, term_one e p d f _ (by omega)]
    exact loop_shut e (f + 1) d j q (neg 0)
  | n + 1, a, d, q, j, f, hd, hf => by
    obtain ⟨f, rfl⟩ : ∃ g, f = g + 3 := ⟨f - 3, by omega⟩
    have ht : termF e (f + 2) (sg 40 (n + 1) a ++ one1 p :: sg 41 (n + 1 + j) q) d = some (.ok (neg 0) (sg 41 j (q + (n + 1)))) := by
      rw [termF, if_neg (by omega), mayF_sgn 40 [[45]] a n _ (by decide), if_neg Bool.false_ne_true, primF, mayF_sg 40 [[40]] a n _ (by decide), if_pos rfl]
      simp only
      rw [show n + 1 + j = n + (j + 1) by omega, expr_open e p n (a + 1) (d + 1) q (j + 1) f (by omega) (by omega)]
      simp only
      have hm := mayF_sg 41 [[41]] (q + n) j [] (by decide)
      rw [List.append_nil, List.append_nil] at hm
      simp only [mustF, hm, if_true]
      rw [show q + n + 1 = q + (n + 1) by omega]
    rw [exprF, ht]
    exact loop_shut e (f + 1) d j _ (neg 0)
theorem expr_deep (e : Nat) (R : List Tk) : ∀ (k n a d f : Nat), d + k = 64 → k < n → 3 * k + 2 ≤ f → exprF e f (sg 40 n a ++ R) d = some (.bad (a + k) 82)
  | 0, n, a, d, f, hd, hn, hf => by
    obtain ⟨f, rfl⟩ : ∃ g, f = g + 2 := ⟨f - 2, by omega⟩
    obtain ⟨n, rfl⟩ : ∃ g, n = g + 1 := ⟨n - 1, by omega⟩
    rw [exprF, termF, if_pos (by omega), hereF_sg]; rfl
  | k + 1, n, a, d, f, hd, hn, hf => by
    obtain ⟨f, rfl⟩ : ∃ g, f = g + 3 := ⟨f - 3, by omega⟩
    obtain ⟨n, rfl⟩ : ∃ g, n = g + 1 := ⟨n - 1, by omega⟩
    rw [exprF, termF, if_neg (by omega), mayF_sgn 40 [[45]] a n _ (by decide), if_neg Bool.false_ne_true, primF, mayF_sg 40 [[40]] a n R (by decide), if_pos rfl]
    simp only
    rw [expr_deep e R k n (a + 1) (d + 1) f (by omega) (by omega) (by omega), show a + 1 + k = a + (k + 1) by omega]
theorem fine_neg : ((List.range 64).all fun n => rightAll 300 [(1, neg n)]) = true := by decide +kernel
/-- What is read of brackets and signs. -/
def deepR (m : Nat) (x : Ex) : PR := if m < 64 then .ok x [] else .bad 64 82
theorem deep_minus (m e : Nat) (hm : m ≤ 200) : exprF e 300 (sg 45 m 0 ++ [one1 m]) 0 = some (deepR m (neg m)) ∧ fine 300 (deepR m (neg m)) = true := by
  unfold deepR
  by_cases h : m < 64
  · rw [if_pos h]
    refine ⟨?_, List.all_eq_true.1 fine_neg m (List.mem_range.2 h)⟩
    rw [exprF, term_neg e m m 0 0 299 (by omega) (by omega)]; exact loop_nil e 298 0 (neg m)
  · rw [if_neg h]
    refine ⟨?_, rfl⟩
    rw [exprF]
    by_cases h64 : m = 64
    · subst h64; kernel_rfl
    · rw [term_deep e _ 64 m 0 0 299 (by omega) (by omega) (by omega)]
theorem deep_open (m e : Nat) (hm : m ≤ 200) : exprF e 300 (sg 40 m 0 ++ one1 m :: sg 41 m (m + 1)) 0 = some (deepR m (neg 0)) ∧ fine 300 (deepR m (neg 0)) = true := by
  unfold deepR
  by_cases h : m < 64
  · rw [if_pos h]
    refine ⟨?_, List.all_eq_true.1 fine_neg 0 (by simp)⟩
    have := expr_open e m m 0 0 (m + 1) 0 300 (by omega) (by omega)
    simpa [sg] using this
  · rw [if_neg h]
    refine ⟨?_, rfl⟩
    by_cases h64 : m = 64
    · subst h64; kernel_rfl
    · rw [expr_deep e _ 64 m 0 0 300 (by omega) (by omega) (by omega)]
theorem txt_ascii (o : UInt8) (ho : o.toNat < 128) (m k : Nat) : Ascii (txt o m k) := by
  intro b hb
  simp only [txt, List.mem_append, List.mem_replicate, List.mem_singleton] at hb
  rcases hb with ⟨_, rfl⟩ | rfl | ⟨_, rfl⟩
  · exact ho
  · decide
  · decide
end Go.Proofs.YtedicdnflpjhkaaDoor
