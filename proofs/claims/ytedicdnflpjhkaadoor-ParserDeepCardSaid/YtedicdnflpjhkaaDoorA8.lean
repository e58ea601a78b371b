/- Appending to a slice, told of abstract values. No condition: definitions and lemmas. -/
import Derived.Test.YtedicdnflpjhkaaDoorA7
import Derived.Lib.AppendStr
namespace Go.Aw
open Go.RowKit
variable {D : List Deferred}

section
variable {P : Program} {π : Pi} {w : World} {b0 : Nat} {w0 : World} {S : AS}

theorem divmod_at {i j s : Nat} (hj : j < s) : (i * s + j) / s = i ∧ (i * s + j) % s = j := by
  have h0 : 0 < s := by omega
  constructor
  · rw [Nat.mul_comm, Nat.mul_add_div h0, Nat.div_eq_of_lt hj, Nat.add_zero]
  · rw [Nat.mul_comm, Nat.mul_add_mod, Nat.mod_eq_of_lt hj]
theorem lt_rows {i j s n : Nat} (hi : i < n) (hj : j < s) : i * s + j < n * s := by
  have : (i + 1) * s ≤ n * s := Nat.mul_le_mul_right s hi
  rw [Nat.add_mul] at this
  omega

/-- What a slice that is not empty is, and where its cells lie. -/
theorem sl_parts {v : Value} {es : List (List AV)} {own : Option (Nat × Nat)} {s : Nat} (hv : VR π v (.sl es own)) (hne : es ≠ []) (hsz : ∀ e ∈ es, e.length = s) :
    ∃ (ad : Addr) (cap : Nat) (f : Nat → Value), v = .slice (some ad) es.length cap ∧ ad.spot = none ∧ es.length ≤ cap ∧ cap ≤ maxLen ∧ (∀ k, k < es.length * s → π ad.block (ad.off + k) = some (f k)) ∧
      (∀ (i j : Nat) (el : List AV) (a : AV), es[i]? = some el → el[j]? = some a → VR π (f (i * s + j)) a) ∧ (∀ q, own = some q → ad = ⟨q.1, 0, none⟩ ∧ q.2 = cap) := by
  cases hv with
  | nilsl => exact absurd rfl hne
  | sl ad n cap esz es own val hn hes hsp hc hm hp hvv ho =>
    have hpos : 0 < es.length := List.length_pos_iff.2 hne
    have hez : esz = s := by
      have hmem : es[0] ∈ es := List.getElem_mem hpos
      rw [← hes _ hmem, hsz _ hmem]
    subst hez
    subst hn
    refine ⟨ad, cap, fun k => val (k / esz) (k % esz), rfl, hsp hpos, hc, hm, ?_, ?_, ho⟩
    · intro k hk
      have h0 : 0 < esz := by
        rcases Nat.eq_zero_or_pos esz with h | h
        · subst h; simp at hk
        · exact h
      have h1 : k / esz < es.length := (Nat.div_lt_iff_lt_mul h0).2 hk
      have h2 : k % esz < esz := Nat.mod_lt _ h0
      have := hp (k / esz) (k % esz) h1 h2
      rwa [show k / esz * esz + k % esz = k by rw [Nat.mul_comm]; exact Nat.div_add_mod k esz] at this
    · intro i j el a he ha
      have hj : j < esz := by rw [← hes _ (List.mem_of_getElem? he)]; exact (List.getElem?_eq_some_iff.1 ha).1
      obtain ⟨d1, d2⟩ := divmod_at (i := i) hj
      show VR π (val ((i * esz + j) / esz) ((i * esz + j) % esz)) a
      rw [d1, d2]
      exact hvv i j el a he ha

theorem sl_mk {π : Pi} {B n cap s : Nat} {es : List (List AV)} (f : Nat → Value) (hn : es.length = n) (hes : ∀ e ∈ es, e.length = s) (hc : n ≤ cap) (hm : cap ≤ maxLen) (hp : ∀ k, k < n * s → π B k = some (f k))
    (hv : ∀ (i j : Nat) (el : List AV) (a : AV), es[i]? = some el → el[j]? = some a → VR π (f (i * s + j)) a) : VR π (.slice (some ⟨B, 0, none⟩) n cap) (.sl es (some (B, cap))) :=
  .sl ⟨B, 0, none⟩ n cap s es _ (fun i j => f (i * s + j)) hn hes (fun _ => rfl) hc hm (fun i j hi hj => by rw [Nat.zero_add]; exact hp _ (lt_rows hi hj)) hv (fun q hq => by cases hq; exact ⟨rfl, rfl⟩)

/-- A new row, with room behind it. -/
theorem Sim.rowNew (hs : Sim b0 w0 π S w) (e s n cap : Nat) {cells : Array Value} {es : List (List AV)} (hsz : cells.size = cap * s) (hn : n ≤ cap) (hm : cap ≤ maxLen) (hlen : es.length = n) (hes : ∀ el ∈ es, el.length = s)
    (f : Nat → Value) (hf : ∀ k, k < n * s → cells[k]? = some (f k)) (hrel : ∀ (i j : Nat) (el : List AV) (a : AV), es[i]? = some el → el[j]? = some a → VR π (f (i * s + j)) a) :
    ∃ π', π.le π' ∧ Sim b0 w0 π' (S.set w.heap.size (.tip e s n cap)) (w.alloc (.cells cells e)) ∧ VR π' (.slice (some ⟨w.heap.size, 0, none⟩) n cap) (.sl es (some (w.heap.size, cap))) := by
  let π' : Pi := fun B o => if B = w.heap.size then (if o < n * s then some (f o) else none) else π B o
  have hle : π.le π' := by
    intro B o x hx
    have : B ≠ w.heap.size := Nat.ne_of_lt (hs.pi_lt hx)
    simp [π', this, hx]
  have hnew : (w.alloc (.cells cells e)).heap[w.heap.size]? = some (.cells cells e (0, 0)) := heap_alloc_new w _
  refine ⟨π', hle, ?_, sl_mk f hlen hes hn hm (fun k hk => by simp [π', hk]) (fun i j el a he ha => (hrel i j el a he ha).mono hle)⟩
  have h1 : Sim b0 w0 π S (w.alloc (.cells cells e)) := hs.grown (World.grownBy_alloc w _ none) (fun _ e => by cases e) (fun _ _ _ e => by cases e) (fun _ e => by cases e) (AS.le_refl S)
  refine ⟨h1.below, h1.base, ?_, ?_⟩
  · intro B o x hx
    by_cases hB : B = w.heap.size
    · subst hB
      simp only [π', if_true] at hx
      split at hx
      · rename_i ho; cases hx; rw [cell_of_row _ _ o cells e (0, 0) hnew]; exact hf o ho
      · cases hx
    · simp only [π', hB, if_false] at hx
      exact h1.pi B o x hx
  · intro B o hB
    unfold AS.set at hB
    split at hB
    · rename_i hBe
      cases hB
      subst hBe
      refine ⟨hs.base, ⟨cells, hnew, hsz, hn, hm⟩, fun o ho => ?_⟩
      simp only [π', if_true]
      rw [if_neg (by omega)]
    · rename_i hBe
      exact ⟨(h1.obj B o hB).1, (h1.obj B o hB).2.pi hle (fun j => by simp [π', hBe])⟩

/-- A row goes on into the room behind it. -/
theorem Sim.rowRoom (hs : Sim b0 w0 π S w) {B e s n m cap : Nat} (hB : S B = some (.tip e s n cap)) {cur cells : Array Value} (hcur : w.heap[B]? = some (.cells cur e (0, 0))) {es : List (List AV)} (hsz : cells.size = cur.size) (hn : n + m ≤ cap)
    (hlen : es.length = n + m) (hes : ∀ el ∈ es, el.length = s) (f : Nat → Value) (hold : ∀ k, k < n * s → cells[k]? = cur[k]?) (hpi : ∀ k, k < n * s → π B k = some (f k)) (hf : ∀ k, k < (n + m) * s → cells[k]? = some (f k))
    (hrel : ∀ (i j : Nat) (el : List AV) (a : AV), es[i]? = some el → el[j]? = some a → VR π (f (i * s + j)) a) :
    ∃ π', π.le π' ∧ Sim b0 w0 π' (S.set B (.tip e s (n + m) cap)) (w.setRow B cells) ∧ VR π' (.slice (some ⟨B, 0, none⟩) (n + m) cap) (.sl es (some (B, cap))) := by
  obtain ⟨hb, ⟨cur', hh, hcs, _, hmx⟩, hnone⟩ := hs.obj B _ hB
  rw [hcur] at hh
  cases hh
  let π' : Pi := fun b o => if b = B then (if o < (n + m) * s then some (f o) else none) else π b o
  have hmono : n * s ≤ (n + m) * s := Nat.mul_le_mul_right s (by omega)
  have hle : π.le π' := by
    intro b o x hx
    by_cases e' : b = B
    · subst e'
      have ho : o < n * s := by
        rcases Nat.lt_or_ge o (n * s) with h | h
        · exact h
        · rw [hnone o h] at hx; cases hx
      rw [hpi o ho] at hx
      simp only [π', if_true]
      rw [if_pos (by omega)]
      exact hx
    · simp [π', e', hx]
  have hset := setRow_heap w B cur cells e (0, 0) hcur
  refine ⟨π', hle, ?_, sl_mk f hlen hes hn hmx (fun k hk => by simp [π', hk]) (fun i j el a he ha => (hrel i j el a he ha).mono hle)⟩
  have hg : w.grownBy (w.setRow B cells) (some B) := ⟨rfl, rfl, rfl, by simp, fun k _ hk => setRow_other w B k cells (fun e => hk (by rw [e]))⟩
  have hd : Sim b0 w0 π (S.del B) (w.setRow B cells) := hs.grown hg (fun k e => by cases e; exact hb)
    (fun k o x e hx => by
      cases e
      have ho : o < n * s := by
        rcases Nat.lt_or_ge o (n * s) with h | h
        · exact h
        · rw [hnone o h] at hx; cases hx
      rw [cell_of_row _ _ o cells _ (0, 0) hset, hold o ho]
      have := hs.pi B o x hx
      rwa [cell_of_row _ _ o cur _ (0, 0) hcur] at this)
    (fun k e => by cases e; simp [AS.del]) (fun b o hbo => by unfold AS.del at hbo; split at hbo; · cases hbo
                                                              · exact hbo)
  refine ⟨hd.below, hd.base, ?_, ?_⟩
  · intro b o x hx
    by_cases e' : b = B
    · subst e'
      simp only [π', if_true] at hx
      split at hx
      · rename_i ho; cases hx; rw [cell_of_row _ _ o cells _ (0, 0) hset]; exact hf o ho
      · cases hx
    · simp only [π', e', if_false] at hx
      exact hd.pi b o x hx
  · intro b o hbo
    unfold AS.set at hbo
    split at hbo
    · rename_i e'
      cases hbo
      subst e'
      refine ⟨hb, ⟨cells, hset, by rw [hsz]; exact hcs, hn, hmx⟩, fun o ho => ?_⟩
      simp only [π', if_true]
      rw [if_neg (by omega)]
    · rename_i e'
      have hdo := hd.obj b o (by simp [AS.del, e', hbo])
      exact ⟨hdo.1, hdo.2.pi hle (fun j => by simp [π', e'])⟩

/-- What may be appended to: nothing, or a row of the call's own that ends where it is seen to end. -/
def isNilSl : Value → Bool
  | .slice none 0 0 => true
  | _ => false
theorem isNilSl_eq {y : Value} (h : isNilSl y = true) : y = .slice none 0 0 := by
  unfold isNilSl at h
  split at h
  · rfl
  · cases h
def tipOf (S : AS) (e : TypeId) (s : Nat) : AV → Option (List (List AV) × AS)
  | .v y => if isNilSl y then some ([], S) else none
  | .sl es (some (B, cap)) => match S B with
    | some (.tip e' s' n cap') => if e' = e ∧ s' = s ∧ n = es.length ∧ cap' = cap then some (es, S.del B) else none
    | _ => none
  | _ => none
theorem AS.del_self (S : AS) (B : Nat) : (S.del B) B = none := by simp [AS.del]
theorem AS.del_le (S : AS) (B : Nat) : (S.del B).le S := by
  intro b o h
  unfold AS.del at h
  split at h
  · cases h
  · exact h
theorem AS.del_set (S : AS) (B : Nat) (o : AObj) : (S.del B).set B o = S.set B o := by funext b; unfold AS.set AS.del; split <;> simp_all
theorem AS.set_le {S T : AS} (h : S.le T) (B : Nat) (o : AObj) : (S.set B o).le (T.set B o) := by
  intro b x hx
  unfold AS.set at hx ⊢
  split
  · rename_i e; rw [if_pos e] at hx; exact hx
  · rename_i e; rw [if_neg e] at hx; exact h b x hx

theorem run_appendG (hs : Sim b0 w0 π S w) {t t2 e : TypeId} {i : TypeInfo} {z : Value} {bytes : Nat} (ty : TypeId) (hby : i.bytes = bytes) (hzs : z.cells.size = i.size)
    {u arg : Value} {x : AV} {es es2 : List (List AV)} {S1 : AS} (hu : VR π u x) (hx : tipOf S e i.size x = some (es, S1)) (hne : es2 ≠ [])
    (hes : ∀ el ∈ es, el.length = i.size) (hes2 : ∀ el ∈ es2, el.length = i.size) (hlen : es.length + es2.length ≤ maxLen) (hbytes : (es.length + es2.length) * bytes ≤ 140737488355328)
    (f2 : Nat → Value) (hr2 : ∀ (i' j : Nat) (el : List AV) (a : AV), es2[i']? = some el → el[j]? = some a → VR π (f2 (i' * i.size + j)) a) (news : List Value) (hnews' : news = (List.range (es2.length * i.size)).map f2) (_hones : ∀ y ∈ news, y.oneCell' = true)
    (Rnil : (Builtin.append_ #[t, t2] ty #[.slice none 0 0, arg]).run P w = .ok (.slice (some ⟨w.heap.size, 0, none⟩) es2.length (grownCap w es2.length 0 e)) (w.drew.alloc (.cells (news.toArray ++ Builtin.zeroCells z.cells (grownCap w es2.length 0 e - es2.length)) e)))
    (Rroom : ∀ (g n cap : Nat) (cur : Array Value), w.heap[g]? = some (.cells cur e (0, 0)) → n + es2.length ≤ cap → n * i.size + news.length ≤ cur.size →
      (Builtin.append_ #[t, t2] ty #[.slice (some ⟨g, 0, none⟩) n cap, arg]).run P w = .ok (.slice (some ⟨g, 0, none⟩) (n + es2.length) cap) (w.setRow g (cur.toList.take (n * i.size) ++ news ++ cur.toList.drop (n * i.size + news.length)).toArray))
    (Rgrow : ∀ (g n cap : Nat) (olds : List Value), olds.length = n * i.size → (∀ j v, olds[j]? = some v → w.cell? ((⟨g, 0, none⟩ : Addr).add j) = some v) → cap < n + es2.length → n + es2.length ≤ maxLen → (n + es2.length) * bytes ≤ 140737488355328 →
      (Builtin.append_ #[t, t2] ty #[.slice (some ⟨g, 0, none⟩) n cap, arg]).run P w = .ok (.slice (some ⟨w.heap.size, 0, none⟩) (n + es2.length) (grownCap w (n + es2.length) cap e))
        (w.drew.alloc (.cells (olds.toArray ++ news.toArray ++ Builtin.zeroCells z.cells (grownCap w (n + es2.length) cap e - (n + es2.length))) e))) :
    ∃ B cap w' π' r, (Builtin.append_ #[t, t2] ty #[u, arg]).run P w = .ok r w' ∧ S1 B = none ∧ π.le π' ∧ Sim b0 w0 π' (S1.set B (.tip e i.size (es.length + es2.length) cap)) w' ∧ VR π' r (.sl (es ++ es2) (some (B, cap))) := by
  have hpos2 : 0 < es2.length := List.length_pos_iff.2 hne
  subst hby
  have hnl : news.length = es2.length * i.size := by simp [hnews']
  have hmem : ∀ el ∈ es ++ es2, el.length = i.size := by
    intro el hel
    rcases List.mem_append.1 hel with h | h
    · exact hes el h
    · exact hes2 el h
  have h63 : ((es.length + es2.length : Nat) : Int) ≤ 9223372036854775807 := by simp only [maxLen] at hlen; omega
  have capsz : ∀ (xs : List Value) (c : Nat), xs.length = (es.length + es2.length) * i.size → es.length + es2.length ≤ c → (xs.toArray ++ Builtin.zeroCells z.cells (c - (es.length + es2.length))).size = c * i.size := by
    intro xs c h1 h2
    rw [Array.size_append, size_zeroCells, hzs, List.size_toArray, h1, ← Nat.add_mul]
    congr 1
    omega
  have elemrel : ∀ (f1 : Nat → Value) (π' : Pi), π.le π' → (∀ (i' j : Nat) (el : List AV) (a : AV), es[i']? = some el → el[j]? = some a → VR π (f1 (i' * i.size + j)) a) →
      ∀ (i' j : Nat) (el : List AV) (a : AV), (es ++ es2)[i']? = some el → el[j]? = some a → VR π' ((fun k => if k < es.length * i.size then f1 k else f2 (k - es.length * i.size)) (i' * i.size + j)) a := by
    intro f1 π' hle hf1 i' j el a he ha
    have hj : j < i.size := by rw [← hmem el (List.mem_of_getElem? he)]; exact (List.getElem?_eq_some_iff.1 ha).1
    rw [List.getElem?_append] at he
    split at he
    · rename_i hlt
      have := lt_rows hlt hj
      simp only [this, if_true]
      exact (hf1 i' j el a he ha).mono hle
    · rename_i hge
      have hge' : es.length ≤ i' := Nat.le_of_not_lt hge
      have hmul : es.length * i.size ≤ i' * i.size := Nat.mul_le_mul_right _ hge'
      have hnot : ¬ i' * i.size + j < es.length * i.size := by omega
      simp only [hnot, if_false]
      have e1 : i' * i.size + j - es.length * i.size = (i' - es.length) * i.size + j := by rw [Nat.sub_mul]; omega
      rw [e1]
      exact (hr2 (i' - es.length) j el a he ha).mono hle
  cases x with
  | v y =>
    simp only [tipOf] at hx
    split at hx
    · cases hx
      rename_i hnil
      have hue := hu.v_inv
      subst hue
      have hue2 := isNilSl_eq hnil
      subst hue2
      simp only [List.length_nil, Nat.zero_add, List.nil_append] at *
      have hr := Rnil
      have hge : es2.length ≤ grownCap w es2.length 0 e := grownCap_ge w _ _ _
      obtain ⟨π', h1, h2, h3⟩ := hs.drew.rowNew e i.size es2.length (grownCap w es2.length 0 e) (capsz news _ hnl hge) hge (grownCap_le_maxLen w _ 0 e hlen) rfl hes2 f2
        (fun k hk => by rw [Array.getElem?_append_left (by simpa [hnl] using hk)]; simp [hnews', hk]) hr2
      exact ⟨w.heap.size, _, _, π', _, hr, hs.fresh, h1, h2, h3⟩
    · cases hx
  | sl es' own' =>
    cases own' with
    | none => simp [tipOf] at hx
    | some q =>
      obtain ⟨B, cap⟩ := q
      simp only [tipOf] at hx
      cases hB : S B with
      | none => simp [hB] at hx
      | some ob =>
        cases ob with
        | tip e' s' n cap' =>
          simp only [hB] at hx
          split at hx
          · rename_i hcond
            obtain ⟨rfl, rfl, rfl, rfl⟩ := hcond
            cases hx
            obtain ⟨hb, ⟨cur, hcur, hcsz, hncap, hcm⟩, hnone⟩ := hs.obj B _ hB
            -- the row that is there
            have hrow : ∃ f1 : Nat → Value, u = .slice (some ⟨B, 0, none⟩) es.length cap' ∧ (∀ k, k < es.length * i.size → π B k = some (f1 k)) ∧
                (∀ (i' j : Nat) (el : List AV) (a : AV), es[i']? = some el → el[j]? = some a → VR π (f1 (i' * i.size + j)) a) := by
              by_cases he : es = []
              · subst he
                cases hu with
                | sl ad n cp esz _ _ val hn _ _ _ _ _ _ ho =>
                  obtain ⟨e1, e2⟩ := ho _ rfl
                  simp only at e1 e2
                  subst e1; subst e2
                  simp only [List.length_nil] at hn
                  subst hn
                  exact ⟨fun _ => undef, rfl, by simp, by simp⟩
              · obtain ⟨ad, cp, f1, e1, hsp, _, _, h5, h6, h7⟩ := sl_parts hu he hes
                obtain ⟨e2, e3⟩ := h7 _ rfl
                simp only at e2 e3
                subst e2; subst e3
                exact ⟨f1, e1, fun k hk => by have := h5 k hk; rwa [Nat.zero_add] at this, h6⟩
            obtain ⟨f1, rfl, hp1, hr1⟩ := hrow
            have hcell : ∀ k, k < es.length * i.size → cur[k]? = some (f1 k) := by
              intro k hk
              have := hs.pi B k _ (hp1 k hk)
              rwa [cell_of_row w B k cur e' (0, 0) hcur] at this
            by_cases hroom : es.length + es2.length ≤ cap'
            · have hle1 : (es.length + es2.length) * i.size ≤ cap' * i.size := Nat.mul_le_mul_right _ hroom
              have hfit : es.length * i.size + news.length ≤ cur.size := by rw [hnl, hcsz, ← Nat.add_mul]; exact hle1
              have hr := Rroom B es.length cap' cur hcur hroom hfit
              have hget : ∀ k, k < (es.length + es2.length) * i.size → (cur.toList.take (es.length * i.size) ++ news ++ cur.toList.drop (es.length * i.size + news.length)).toArray[k]? =
                  some ((fun k => if k < es.length * i.size then f1 k else f2 (k - es.length * i.size)) k) := by
                intro k hk
                rw [Nat.add_mul] at hk
                rw [List.getElem?_toArray, List.append_assoc, List.getElem?_append]
                have hlt0 : (cur.toList.take (es.length * i.size)).length = es.length * i.size := by simp; omega
                rw [hlt0]
                by_cases h1 : k < es.length * i.size
                · rw [if_pos h1, List.getElem?_take, if_pos h1, Array.getElem?_toList, hcell k h1]
                  simp [h1]
                · rw [if_neg h1, List.getElem?_append, if_pos (by rw [hnl]; omega)]
                  simp only [h1, if_false]
                  simp [hnews', show k - es.length * i.size < es2.length * i.size by omega]
              obtain ⟨π', h1, h2, h3⟩ := hs.rowRoom (B := B) (m := es2.length) hB hcur (cells := (cur.toList.take (es.length * i.size) ++ news ++ cur.toList.drop (es.length * i.size + news.length)).toArray) (es := es ++ es2)
                (by simp; omega) hroom (by simp) hmem (fun k => if k < es.length * i.size then f1 k else f2 (k - es.length * i.size))
                (fun k hk => by
                  have hk' : k < (es.length + es2.length) * i.size := by rw [Nat.add_mul]; omega
                  rw [hget k hk', hcell k hk]; simp [hk])
                (fun k hk => by rw [hp1 k hk]; simp [hk]) hget (elemrel f1 π (Pi.le_refl π) hr1)
              exact ⟨B, cap', _, π', _, hr, AS.del_self S B, h1, by rw [AS.del_set]; exact h2, h3⟩
            · let olds := (List.range (es.length * i.size)).map f1
              have hol : olds.length = es.length * i.size := by simp [olds]
              have holds : ∀ j y, olds[j]? = some y → w.cell? ((⟨B, 0, none⟩ : Addr).add j) = some y := by
                intro j y hj
                have hlt : j < es.length * i.size := by rw [← hol]; exact (List.getElem?_eq_some_iff.1 hj).1
                have hy : y = f1 j := by simp [olds, hlt] at hj; exact hj.symm
                subst hy
                rw [add_off, Nat.zero_add]
                exact hs.pi _ _ _ (hp1 j hlt)
              have hr := Rgrow B es.length cap' olds hol holds (by omega) hlen hbytes
              have hge : es.length + es2.length ≤ grownCap w (es.length + es2.length) cap' e' := grownCap_ge w _ _ _
              have hjoin : olds.toArray ++ news.toArray = (olds ++ news).toArray := by simp
              have hjl : (olds ++ news).length = (es.length + es2.length) * i.size := by rw [List.length_append, hol, hnl, Nat.add_mul]
              obtain ⟨π', h1, h2, h3⟩ := hs.drew.rowNew e' i.size (es.length + es2.length) (grownCap w (es.length + es2.length) cap' e') (cells := olds.toArray ++ news.toArray ++ Builtin.zeroCells z.cells (grownCap w (es.length + es2.length) cap' e' - (es.length + es2.length))) (es := es ++ es2)
                (by rw [hjoin]; exact capsz _ _ hjl hge) hge (grownCap_le_maxLen w _ cap' e' hlen) (by simp) hmem (fun k => if k < es.length * i.size then f1 k else f2 (k - es.length * i.size))
                (fun k hk => by
                  rw [hjoin, Array.getElem?_append_left (by simpa [hjl] using hk), List.getElem?_toArray, List.getElem?_append, hol]
                  rw [Nat.add_mul] at hk
                  by_cases h1 : k < es.length * i.size
                  · rw [if_pos h1]; simp [olds, h1]
                  · rw [if_neg h1]; simp [hnews', h1, show k - es.length * i.size < es2.length * i.size by omega]) (elemrel f1 π (Pi.le_refl π) hr1)
              refine ⟨w.heap.size, _, _, π', _, hr, ?_, h1, h2.le (AS.set_le (AS.del_le S B) _ _), h3⟩
              unfold AS.del
              split
              · rfl
              · exact hs.fresh
          · cases hx
        | _ => simp [hB] at hx
  | _ => simp [tipOf] at hx

theorem run_append (hs : Sim b0 w0 π S w) {t e : TypeId} {i : TypeInfo} {z : Value} {s bytes : Nat} (ty : TypeId) (ht : P.underlying t = some (.slice e)) (hi : P.info? e = some i) (hz : i.zero = some z) (hsz : i.size = s) (hby : i.bytes = bytes) (hzs : z.cells.size = s)
    {u v : Value} {x : AV} {es es2 : List (List AV)} {own2 : Option (Nat × Nat)} {S1 : AS} (hu : VR π u x) (hx : tipOf S e s x = some (es, S1)) (hv : VR π v (.sl es2 own2)) (hne : es2 ≠ [])
    (hes : ∀ el ∈ es, el.length = s) (hes2 : ∀ el ∈ es2, el.length = s ∧ el.all AV.one = true) (hlen : es.length + es2.length ≤ maxLen) (hbytes : (es.length + es2.length) * bytes ≤ 140737488355328) :
    ∃ B cap w' π' r, (Builtin.append_ #[t, t] ty #[u, v]).run P w = .ok r w' ∧ S1 B = none ∧ π.le π' ∧ Sim b0 w0 π' (S1.set B (.tip e s (es.length + es2.length) cap)) w' ∧ VR π' r (.sl (es ++ es2) (some (B, cap))) := by
  obtain ⟨ad2, cap2, f2, rfl, hsp2, hc2, hm2, hp2, hr2, _⟩ := sl_parts hv hne (fun el hel => (hes2 el hel).1)
  have hpos2 : 0 < es2.length := List.length_pos_iff.2 hne
  subst hsz
  subst hby
  let news := (List.range (es2.length * i.size)).map f2
  have hnl : news.length = es2.length * i.size := by simp [news]
  have hnews : ∀ j y, news[j]? = some y → w.cell? (ad2.add j) = some y := by
    intro j y hj
    have hlt : j < es2.length * i.size := by rw [← hnl]; exact (List.getElem?_eq_some_iff.1 hj).1
    have hy : y = f2 j := by simp [news, hlt] at hj; exact hj.symm
    subst hy
    rw [ad_add ad2 _ hsp2]
    exact hs.pi _ _ _ (hp2 j hlt)
  have hones : ∀ y ∈ news, y.oneCell' = true := by
    intro y hy
    obtain ⟨k, hk, rfl⟩ := List.mem_map.1 hy
    have hk' : k < es2.length * i.size := List.mem_range.1 hk
    have h0 : 0 < i.size := by
      rcases Nat.eq_zero_or_pos i.size with h | h
      · rw [h] at hk'; simp at hk'
      · exact h
    have h1 : k / i.size < es2.length := (Nat.div_lt_iff_lt_mul h0).2 hk'
    have hm : k % i.size < es2[k / i.size].length := by rw [(hes2 _ (List.getElem_mem h1)).1]; exact Nat.mod_lt _ h0
    have hvr := hr2 (k / i.size) (k % i.size) es2[k / i.size] (es2[k / i.size])[k % i.size] (List.getElem?_eq_getElem h1) (List.getElem?_eq_getElem hm)
    rw [show k / i.size * i.size + k % i.size = k by rw [Nat.mul_comm]; exact Nat.div_add_mod k i.size] at hvr
    exact hvr.one (List.all_eq_true.1 (hes2 _ (List.getElem_mem h1)).2 _ (List.getElem_mem hm))
  have h63 : ((es2.length : Nat) : Int) ≤ 9223372036854775807 := by simp only [maxLen] at hlen; omega
  exact run_appendG (t := t) (t2 := t) (P := P) hs ty rfl hzs hu hx hne hes (fun el hel => (hes2 el hel).1) hlen hbytes f2 hr2 news rfl hones
    (run_append_nil (P := P) w t ty e i z ht hi hz ad2 es2.length cap2 news hnl hnews hpos2 h63 (by have := Nat.mul_le_mul_right i.bytes (Nat.le_add_left es2.length es.length); omega))
    (fun g n cap cur hg hroom hfit => run_append_room (P := P) w t ty e i ht hi g n cap cur hg ad2 es2.length cap2 news hnl hnews hones hroom hfit)
    (fun g n cap olds hol holds hlt hm hb => run_append_grow (P := P) w t ty e i z ht hi hz ⟨g, 0, none⟩ n cap olds hol holds ad2 es2.length cap2 news hnl hnews hlt (by simp only [maxLen] at hm; omega) (growslice_fits (by omega) hb))

/-- A text's bytes as elements. -/
def bytesA (l : List UInt8) : List (List AV) := l.map fun b => [.v (.int .u8 b.toNat)]
theorem bytesA_length (l : List UInt8) : (bytesA l).length = l.length := by simp [bytesA]
theorem run_append_str (hs : Sim b0 w0 π S w) {t t2 e : TypeId} {i : TypeInfo} {bytes : Nat} (ty : TypeId) (ht : P.underlying t = some (.slice e)) (ht2 : P.underlying t2 = some .string) (hi : P.info? e = some i) (hz : i.zero = some (.int .u8 0)) (hsz : i.size = 1) (hby : i.bytes = bytes)
    {u v : Value} {x : AV} {es : List (List AV)} {l : List UInt8} {S1 : AS} (hu : VR π u x) (hx : tipOf S e 1 x = some (es, S1)) (hv : VR π v (.str l)) (hne : l ≠ [])
    (hes : ∀ el ∈ es, el.length = 1) (hlen : es.length + l.length ≤ maxLen) (hbytes : (es.length + l.length) * bytes ≤ 140737488355328) :
    ∃ B cap w' π' r, (Builtin.append_ #[t, t2] ty #[u, v]).run P w = .ok r w' ∧ S1 B = none ∧ π.le π' ∧ Sim b0 w0 π' (S1.set B (.tip e 1 (es.length + l.length) cap)) w' ∧ VR π' r (.sl (es ++ bytesA l) (some (B, cap))) := by
  cases hv with
  | str sb _ hsb =>
    have hsl : sb.size = l.length := by rw [← hsb, Array.length_toList]; rfl
    have hcells : Lib.strCells sb = l.map fun b => Value.int .u8 b.toNat := by rw [Lib.strCells, hsb]
    have hpos : 0 < l.length := List.length_pos_iff.2 hne
    have hnews : Lib.strCells sb = (List.range ((bytesA l).length * i.size)).map (fun k => Value.int .u8 (l.getD k 0).toNat) := by
      rw [hcells, bytesA_length, hsz, Nat.mul_one]
      apply List.ext_getElem
      · simp
      · intro n h1 h2; simp at h1 ⊢; simp [h1]
    have hm := maxLen
    have := run_appendG (t := t) (t2 := t2) (P := P) (es2 := bytesA l) (arg := .string sb) (z := .int .u8 0) hs ty hby (by rw [hsz]; rfl) hu (by rw [hsz]; exact hx) (by simpa [bytesA] using hne) (by rw [hsz]; exact hes)
      (by intro el hel; obtain ⟨b, _, rfl⟩ := List.mem_map.1 hel; rw [hsz]; rfl) (by rw [bytesA_length]; exact hlen) (by rw [bytesA_length]; exact hbytes)
      (fun k => Value.int .u8 (l.getD k 0).toNat) (by
        intro i' j el a he ha
        rw [bytesA, List.getElem?_map] at he
        cases hl : l[i']? with
        | none => simp [hl] at he
        | some b =>
          simp only [hl, Option.map_some, Option.some.injEq] at he
          subst he
          cases j with
          | zero => simp at ha; subst ha; rw [hsz]; simp [List.getD, hl]; exact .v _
          | succ j => simp at ha) (Lib.strCells sb) hnews (Lib.strCells_oneCell sb)
      (by
        have h63 : (sb.size : Int) ≤ 9223372036854775807 := by simp only [maxLen] at hlen; omega
        have h48 : sb.size * i.bytes ≤ 281474976710656 := by
          have := Nat.mul_le_mul_right bytes (Nat.le_add_left l.length es.length); rw [hsl, hby]; omega
        have hr := run_append_nil_string (P := P) w t t2 ty e i (.int .u8 0) ht ht2 hi hz sb (by omega) h63 h48
        rw [bytesA_length, ← hsl, hr]
        congr 5
        · apply Array.ext'; simp [Lib.strCells])
      (fun g n cap cur hg hroom hfit => by
        rw [bytesA_length, ← hsl] at hroom
        rw [Lib.strCells_length, hsz] at hfit
        have hr := Lib.run_append_room_string (P := P) w t t2 ty e i ht ht2 hi hsz g n cap cur hg sb hroom (by omega)
        rw [bytesA_length, ← hsl, hr, hsz, Nat.mul_one, Lib.strCells_length])
      (fun g n cap olds hol holds hlt hm' hb => by
        rw [bytesA_length, ← hsl] at hlt hm' hb
        have hr := Lib.run_append_grow_string (P := P) w t t2 ty e i (.int .u8 0) ht ht2 hi hz ⟨g, 0, none⟩ n cap olds hol holds sb hlt (by simp only [maxLen] at hm'; omega) (growslice_fits (by omega) (by rw [hby]; exact hb))
        rw [bytesA_length, ← hsl, hr])
    rw [bytesA_length, hsz] at this
    exact this

/-- 'append' of a row that is not empty. -/
theorem AList.append {ops : Array Oper} {rest : List Oper} {o : Oper} {a : AAct} {Q : APost} {sO xO : Operand} {t e : TypeId} {s bytes : Nat} {z : Value} {es es2 : List (List AV)} {own2 : Option (Nat × Nat)} {S1 : AS}
    (hw : wantedA ops a o.guard = some true) (ho : o.op = .call { callee := .builtin .append, args := #[sO, xO], argTypes := #[t, t] })
    (ht : sliceD P t = some e) (hi : (P.info? e).map (fun i => (i.zero, i.size, i.bytes)) = some (some z, s, bytes)) (hzs : z.cells.size = s)
    (hx : tipOf S e s (a.get sO) = some (es, S1)) (hv : a.get xO = .sl es2 own2) (hne : es2 ≠ [])
    (hes : ∀ el ∈ es, el.length = s) (hes2 : ∀ el ∈ es2, el.length = s ∧ el.all AV.one = true) (hlen : es.length + es2.length ≤ maxLen) (hbytes : (es.length + es2.length) * bytes ≤ 140737488355328)
    (h : ∀ B cap, S1 B = none → AList P ops rest (a.put o.dst (.sl (es ++ es2) (some (B, cap)))) (S1.set B (.tip e s (es.length + es2.length) cap)) Q) : AList P ops (o :: rest) a S Q := by
  intro D b0 w0 π w act hs ha
  refine wpList_inl (wanted_of rfl ha hw) ?_
  obtain ⟨i, hi1, hi2, hi3, hi4⟩ := info_parts hi
  have hvx := ha.eval xO
  rw [hv] at hvx
  obtain ⟨B, cap, w', π', r, hrun, hB, hle, hs', hr⟩ := run_append (P := P) hs o.type (sliceD_parts ht) hi1 hi2 hi3 hi4 hzs (ha.eval sO) hx hvx hne hes hes2 hlen hbytes
  have hexec : (execOp act.eval o).run P w = .ok (.value r) w' := by
    unfold execOp
    simp only [ho, resolve, invoke, builtin, Sem.run_bind, Sem.run_pure, Result.andThen_ok, List.map_toArray, List.map_cons, List.map_nil, hrun]
  unfold Oper.wp
  rw [hexec]
  exact wpList_mono (fun e a w p => Post.mono hle p) rest _ _ (h B cap hB D b0 w0 π' w' _ hs' ((ha.mono hle).put o.dst hr))
/-- 'append' of a text that is not empty. -/
theorem AList.appendS {ops : Array Oper} {rest : List Oper} {o : Oper} {a : AAct} {Q : APost} {sO xO : Operand} {t t2 e : TypeId} {bytes : Nat} {es : List (List AV)} {l : List UInt8} {S1 : AS}
    (hw : wantedA ops a o.guard = some true) (ho : o.op = .call { callee := .builtin .append, args := #[sO, xO], argTypes := #[t, t2] })
    (ht : sliceD P t = some e) (ht2 : strD P t2 = true) (hi : (P.info? e).map (fun i => (i.zero, i.size, i.bytes)) = some (some (.int .u8 0), 1, bytes))
    (hx : tipOf S e 1 (a.get sO) = some (es, S1)) (hv : a.get xO = .str l) (hne : l ≠ [])
    (hes : ∀ el ∈ es, el.length = 1) (hlen : es.length + l.length ≤ maxLen) (hbytes : (es.length + l.length) * bytes ≤ 140737488355328)
    (h : ∀ B cap, S1 B = none → AList P ops rest (a.put o.dst (.sl (es ++ bytesA l) (some (B, cap)))) (S1.set B (.tip e 1 (es.length + l.length) cap)) Q) : AList P ops (o :: rest) a S Q := by
  intro D b0 w0 π w act hs ha
  refine wpList_inl (wanted_of rfl ha hw) ?_
  obtain ⟨i, hi1, hi2, hi3, hi4⟩ := info_parts hi
  have hvx := ha.eval xO
  rw [hv] at hvx
  obtain ⟨B, cap, w', π', r, hrun, hB, hle, hs', hr⟩ := run_append_str (P := P) hs o.type (sliceD_parts ht) (strD_parts ht2) hi1 hi2 hi3 hi4 (ha.eval sO) hx hvx hne hes hlen hbytes
  have hexec : (execOp act.eval o).run P w = .ok (.value r) w' := by
    unfold execOp
    simp only [ho, resolve, invoke, builtin, Sem.run_bind, Sem.run_pure, Result.andThen_ok, List.map_toArray, List.map_cons, List.map_nil, hrun]
  unfold Oper.wp
  rw [hexec]
  exact wpList_mono (fun e a w p => Post.mono hle p) rest _ _ (h B cap hB D b0 w0 π' w' _ hs' ((ha.mono hle).put o.dst hr))
end
end Go.Aw
