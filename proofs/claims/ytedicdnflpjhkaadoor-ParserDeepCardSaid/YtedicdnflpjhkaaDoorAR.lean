/- Rows that are appended to and written: 'append' into rows of the call's own, 'copy'. No condition: definitions and lemmas. -/
import Derived.Test.YtedicdnflpjhkaaDoorA8
import Derived.Test.YtedicdnflpjhkaaDoorAM
set_option linter.unusedVariables false
namespace Go.Aw
open Go.RowKit
variable {D : List Deferred}

/-- What a slice holds, cell by cell: how many elements, and the cells. -/
def sourceA (S : AS) (s : Nat) : AV → Option (Nat × List AV)
  | .sl es _ => if es.all (·.length == s) then some (es.length, es.flatten) else none
  | .fsl es => if es.all (·.length == s) then some (es.length, es.flatten) else none
  | .win B off n _ => match S B with | some (.var cells _) => if off + n * s ≤ cells.length then some (n, (cells.drop off).take (n * s)) else none | _ => none
  | .v (.slice none 0 0) => some (0, [])
  | _ => none

section
variable {P : Program} {π : Pi} {w : World} {b0 : Nat} {w0 : World} {S : AS}
theorem flatten_length {es : List (List AV)} {s : Nat} (h : ∀ e ∈ es, e.length = s) : es.flatten.length = es.length * s := by
  induction es with
  | nil => simp
  | cons e r ih => rw [List.flatten_cons, List.length_append, ih (fun x hx => h x (by simp [hx])), h e (by simp), List.length_cons, Nat.add_mul]; omega
theorem flatten_get {es : List (List AV)} {s : Nat} (h : ∀ e ∈ es, e.length = s) (k : Nat) (hk : k < es.length * s) : ∃ el a, es[k / s]? = some el ∧ el[k % s]? = some a ∧ es.flatten[k]? = some a := by
  induction es generalizing k with
  | nil => simp at hk
  | cons e r ih =>
    have hs : e.length = s := h e (by simp)
    have h0 : 0 < s := by
      rcases Nat.eq_zero_or_pos s with h | h
      · subst h; simp at hk
      · exact h
    rw [List.flatten_cons, List.getElem?_append]
    by_cases hlt : k < e.length
    · rw [if_pos hlt]
      refine ⟨e, e[k], ?_, ?_, List.getElem?_eq_getElem hlt⟩
      · rw [Nat.div_eq_of_lt (by omega)]; rfl
      · rw [Nat.mod_eq_of_lt (by omega)]; exact List.getElem?_eq_getElem hlt
    · rw [if_neg hlt]
      have hge : s ≤ k := by omega
      rw [List.length_cons, Nat.add_mul, Nat.one_mul] at hk
      obtain ⟨el, a, h1, h2, h3⟩ := ih (fun x hx => h x (by simp [hx])) (k - s) (by omega)
      refine ⟨el, a, ?_, ?_, by rw [hs]; exact h3⟩
      · rw [Nat.div_eq_sub_div h0 hge]; simpa using h1
      · rw [Nat.mod_eq_sub_mod hge]; exact h2
/-- Where a slice's cells lie. -/
theorem source_parts (hs : Sim b0 w0 π S w) {v : Value} {x : AV} {s n : Nat} {cells : List AV} (hv : VR π v x) (h : sourceA S s x = some (n, cells)) :
    cells.length = n * s ∧ ((v = .slice none 0 0 ∧ n = 0) ∨ ∃ (ad : Addr) (cap : Nat) (vs : List Value), v = .slice (some ad) n cap ∧ n ≤ cap ∧ cap ≤ maxLen ∧ vs.length = n * s ∧ (∀ j u, vs[j]? = some u → w.cell? (ad.add j) = some u) ∧ PW π vs.toArray cells) := by
  have sl : ∀ {v : Value} {es : List (List AV)} {own : Option (Nat × Nat)}, VR π v (.sl es own) → es.all (·.length == s) = true →
      es.flatten.length = es.length * s ∧ ((v = .slice none 0 0 ∧ es.length = 0) ∨ ∃ (ad : Addr) (cap : Nat) (vs : List Value), v = .slice (some ad) es.length cap ∧ es.length ≤ cap ∧ cap ≤ maxLen ∧ vs.length = es.length * s ∧ (∀ j u, vs[j]? = some u → w.cell? (ad.add j) = some u) ∧ PW π vs.toArray es.flatten) := by
    intro v es own hv hall
    have hlen : ∀ e ∈ es, e.length = s := fun e he => by simpa using List.all_eq_true.1 hall e he
    refine ⟨flatten_length hlen, ?_⟩
    by_cases hne : es = []
    · subst hne
      cases hv with
      | nilsl => exact .inl ⟨rfl, rfl⟩
      | sl ad m cap esz _ _ val hn _ _ hc hm _ _ _ =>
        simp only [List.length_nil] at hn
        subst hn
        exact .inr ⟨ad, cap, [], rfl, hc, hm, by simp, by simp, by simp, by simp⟩
    · obtain ⟨ad, cap, f, rfl, hsp, hc, hm, h5, h6, _⟩ := sl_parts hv hne hlen
      refine .inr ⟨ad, cap, (List.range (es.length * s)).map f, rfl, hc, hm, by simp, ?_, by simp [flatten_length hlen], ?_⟩
      · intro j u hj
        have hlt : j < es.length * s := by have := (List.getElem?_eq_some_iff.1 hj).1; simpa using this
        have : u = f j := by simp [hlt] at hj; exact hj.symm
        subst this
        rw [ad_add ad _ hsp]
        exact hs.pi _ _ _ (h5 j hlt)
      · intro k u a hu ha
        have hlt : k < es.length * s := by have := (List.getElem?_eq_some_iff.1 ha).1; rwa [flatten_length hlen] at this
        obtain ⟨el, a', e1, e2, e3⟩ := flatten_get hlen k hlt
        rw [e3] at ha
        cases ha
        have : u = f k := by simp [hlt] at hu; exact hu.symm
        subst this
        have := h6 (k / s) (k % s) el a e1 e2
        rwa [show k / s * s + k % s = k by rw [Nat.mul_comm]; exact Nat.div_add_mod k s] at this
  cases hv with
  | sl ad m cap esz es own val hn hes hsp hc hm hp hvv ho =>
    simp only [sourceA] at h
    split at h
    · rename_i hall
      cases h
      exact sl (.sl ad m cap esz es own val hn hes hsp hc hm hp hvv ho) hall
    · cases h
  | nilsl =>
    simp only [sourceA, List.all_nil, if_true] at h
    cases h
    exact ⟨by simp, .inl ⟨rfl, rfl⟩⟩
  | fsl ad m es hh hl =>
    simp only [sourceA] at h
    split at h
    · rename_i hall
      cases h
      exact sl hh hall
    · cases h
  | win B off m cap hn hm =>
    simp only [sourceA] at h
    split at h
    · rename_i cs ety hB
      split at h
      · rename_i hfit
        cases h
        refine ⟨by simp; omega, .inr ?_⟩
        obtain ⟨_, ⟨arr, hh, hp⟩, _⟩ := hs.obj B _ hB
        have hsz : arr.size = cs.length := hp.1
        refine ⟨⟨B, off, none⟩, cap, (arr.toList.drop off).take (n * s), rfl, hn, hm, by simp; omega, ?_, ?_⟩
        · intro j u hj
          rw [List.getElem?_take] at hj
          split at hj
          · rw [List.getElem?_drop] at hj
            rw [add_off, cell_of_row w B (off + j) arr ety (0, 0) hh]
            simpa using hj
          · cases hj
        · have := (hp.drop off).take (n * s)
          simpa using this
      · cases h
    · cases h
  | v z =>
    cases v <;> try (cases h; done)
    rename_i ad m c
    cases ad with
    | some _ => cases h
    | none => cases m with
      | succ _ => cases h
      | zero => cases c with
        | succ _ => cases h
        | zero => cases h; exact ⟨by simp, .inl ⟨rfl, rfl⟩⟩
  | _ => cases h

/-- 'append' that makes a new row of the call's own. -/
def GrowK (n k : Nat) (olds news : List AV) (z : Value) (e : TypeId) (S : AS) (K : AV → AS → Prop) : Prop :=
  ∀ B cap, S B = none → n + k ≤ cap → cap ≤ maxLen → K (.win B 0 (n + k) cap) (S.set B (.var (olds ++ news ++ repA (cap - (n + k)) (ofValue z).cells) e))
/-- 'append' that makes a new row that is never written. -/
def FrostK (n k s : Nat) (olds news : List AV) (e : TypeId) (S : AS) (K : AV → AS → Prop) : Prop :=
  0 < s ∧ ∀ B cap, S B = none → K (.sl (chunk s (n + k) (olds ++ news)) (some (B, cap))) (S.set B (.tip e s (n + k) cap))
def RoomK (n k s cap B : Nat) (news : List AV) (e : TypeId) (S : AS) (K : AV → AS → Prop) : Prop :=
  ∃ cells, S B = some (.var cells e) ∧ n * s + k * s ≤ cells.length ∧ K (.win B 0 (n + k) cap) (S.set B (.var (cells.take (n * s) ++ news ++ cells.drop (n * s + k * s)) e))
def AppendVK (P : Program) (t u : TypeId) (x y : AV) (S : AS) (K : AV → AS → Prop) : Prop :=
  ∃ e s bytes z n olds k news, u = t ∧ sliceD P t = some e ∧ (P.info? e).map (fun i => (i.zero, i.size, i.bytes)) = some (some z, s, bytes) ∧ z.cells.size = s ∧ 0 < k ∧ sourceA S s x = some (n, olds) ∧ sourceA S s y = some (k, news) ∧
    news.all AV.one = true ∧ n + k ≤ maxLen ∧ (n + k) * bytes ≤ 140737488355328 ∧
    (match x with
      | .win B off _ cap => (n + k ≤ cap → off = 0 ∧ RoomK n k s cap B news e S K) ∧ (cap < n + k → GrowK n k olds news z e S K ∨ FrostK n k s olds news e S K)
      | .fsl _ => GrowK n k olds news z e S K ∨ FrostK n k s olds news e S K
      | .v (.slice none 0 0) => GrowK n k olds news z e S K ∨ FrostK n k s olds news e S K
      | _ => False)
/-- 'append' of nothing. -/
def AppendNK (P : Program) (t u : TypeId) (x y : AV) (S : AS) (K : AV → AS → Prop) : Prop :=
  ∃ e bb s n olds cells, u = t ∧ sliceD P t = some e ∧ tkind P e = some (bb, s) ∧ sourceA S s x = some (n, olds) ∧ sourceA S s y = some (0, cells) ∧ K x S

theorem zero_made (z : Value) (n : Nat) : Builtin.zeroCells z.cells n = madeCells z.cells (n * z.cells.size) := rfl
theorem zeroCells_rel (z : Value) (n : Nat) : PW π (Builtin.zeroCells z.cells n) (repA n (ofValue z).cells) := repA_rel (PW.ofValue π z) n
theorem PW.join {cs ds : Array Value} {as bs : List AV} (h : PW π cs as) (k : PW π ds bs) : PW π (cs ++ ds) (as ++ bs) := by
  have e : cs ++ ds = (cs.toList ++ ds.toList).toArray := by apply Array.ext'; simp
  rw [e]; exact h.append k
theorem VR.win_inv {u : Value} {B off n cap : Nat} (h : VR π u (.win B off n cap)) : u = .slice (some ⟨B, off, none⟩) n cap ∧ n ≤ cap ∧ cap ≤ maxLen := by cases h; exact ⟨rfl, by assumption, by assumption⟩
theorem grown_fin (hs : Sim b0 w0 π S w) {n k s cap e : Nat} {z : Value} {arr : Array Value} {olds news : List AV} {K : AV → AS → Prop} (hp : PW π arr (olds ++ news)) (hl : (olds ++ news).length = (n + k) * s) (hge : n + k ≤ cap) (hm : cap ≤ maxLen) (hzs : z.cells.size = s)
    (h : GrowK n k olds news z e S K ∨ FrostK n k s olds news e S K) :
    ∃ π' x S', π.le π' ∧ Sim b0 w0 π' S' (w.drew.alloc (.cells (arr ++ Builtin.zeroCells z.cells (cap - (n + k))) e)) ∧ VR π' (.slice (some ⟨w.heap.size, 0, none⟩) (n + k) cap) x ∧ K x S' := by
  rcases h with h | ⟨h0, h⟩
  · refine ⟨π, _, _, Pi.le_refl π, hs.drew.alloc _ (o := .var (olds ++ news ++ repA (cap - (n + k)) (ofValue z).cells) e) ⟨⟨_, heap_alloc_new w.drew _, ?_⟩, fun o => hs.drew.pi_fresh (Nat.le_refl _) o⟩, .win _ _ _ _ hge hm, h w.heap.size cap hs.fresh hge hm⟩
    exact hp.join (zeroCells_rel z _)
  · have hsz : arr.size = (n + k) * s := by rw [hp.1, hl]
    obtain ⟨π', h1, h2, h3⟩ := hs.drew.rowNew e s (n + k) cap (cells := arr ++ Builtin.zeroCells z.cells (cap - (n + k))) (es := chunk s (n + k) (olds ++ news))
      (by rw [Array.size_append, size_zeroCells, hzs, hsz, ← Nat.add_mul]; congr 1; omega) hge hm (chunk_length s _ _) (fun el hel => chunk_mem s _ _ el (by rw [hl]; exact Nat.le_refl _) hel)
      (fun j => arr[j]?.getD undef) (fun j hj => by rw [Array.getElem?_append_left (by rw [hsz]; exact hj)]; simp [hsz, hj])
      (fun i j el a he ha => by
        have hget := chunk_get s (n + k) (olds ++ news) i j el a he ha
        have hlt := (List.getElem?_eq_some_iff.1 hget).1
        have hlt' : i * s + j < arr.size := by rw [hp.1]; exact hlt
        have := hp.2 (i * s + j) arr[i * s + j] a (Array.getElem?_eq_getElem hlt') hget
        simpa [hlt'] using this)
    exact ⟨π', _, _, h1, h2, h3, h w.heap.size cap hs.fresh⟩
theorem AList.appendV {ops : Array Oper} {rest : List Oper} {o : Oper} {a : AAct} {Q : APost} {sO xO : Operand} {t u : TypeId}
    (hw : wantedA ops a o.guard = some true) (ho : o.op = .call { callee := .builtin .append, args := #[sO, xO], argTypes := #[t, u] })
    (h : AppendVK P t u (a.get sO) (a.get xO) S fun x S' => AList P ops rest (a.put o.dst x) S' Q) : AList P ops (o :: rest) a S Q := by
  intro D b0 w0 π w act hs ha
  refine wpList_inl (wanted_of rfl ha hw) ?_
  obtain ⟨e, s, bytes, z, n, olds, k, news, rfl, ht, hi, hzs, hk, hx, hy, hone, hlen, hbytes, hK⟩ := h
  obtain ⟨i, hi1, hi2, hi3, hi4⟩ := info_parts hi
  subst hi3
  subst hi4
  have hvx := ha.eval sO
  have hvy := ha.eval xO
  obtain ⟨hl1, hp1⟩ := source_parts hs hvx hx
  obtain ⟨hl2, hp2⟩ := source_parts hs hvy hy
  rcases hp2 with ⟨_, h0⟩ | ⟨ad2, cap2, vs2, hy2, hc2, hm2, hl3, hc3, hpw2⟩
  · omega
  have hones : ∀ v ∈ vs2, v.oneCell' = true := by
    have := hpw2.ones hone
    simpa using this
  have h63 : ((n + k : Nat) : Int) ≤ 9223372036854775807 := by simp only [maxLen] at hlen; omega
  have hut := sliceD_parts ht
  have fin : ∀ (r : Value) (w' : World) (π' : Pi) (x : AV) (S' : AS), (Builtin.append_ #[u, u] o.type #[act.eval sO, .slice (some ad2) k cap2]).run P w = .ok r w' → π.le π' → Sim b0 w0 π' S' w' → VR π' r x → AList P ops rest (a.put o.dst x) S' Q →
      o.wp P act w (wpList P ops (Post D b0 w0 π Q) rest) (Post D b0 w0 π Q) := by
    intro r w' π' x S' hrun hle hs' hr hq
    have hexec : (execOp act.eval o).run P w = .ok (.value r) w' := by
      unfold execOp
      simp only [ho, resolve, invoke, builtin, Sem.run_bind, Sem.run_pure, Result.andThen_ok, List.map_toArray, List.map_cons, List.map_nil, hy2, hrun]
    unfold Oper.wp
    rw [hexec]
    exact wpList_mono (fun e a w p => Post.mono hle p) rest _ _ (hq D b0 w0 π' w' _ hs' ((ha.mono hle).put o.dst hr))
  have hl12 : (olds ++ news).length = (n + k) * i.size := by rw [List.length_append, hl1, hl2, Nat.add_mul]
  -- a new row, nothing ahead of it
  have fromNil : act.eval sO = .slice none 0 0 → n = 0 → (GrowK n k olds news z e S (fun x S' => AList P ops rest (a.put o.dst x) S' Q) ∨ FrostK n k i.size olds news e S (fun x S' => AList P ops rest (a.put o.dst x) S' Q)) →
      o.wp P act w (wpList P ops (Post D b0 w0 π Q) rest) (Post D b0 w0 π Q) := by
    intro hev hn0 hK
    subst hn0
    have holds : olds = [] := List.eq_nil_of_length_eq_zero (by rw [hl1]; simp)
    subst holds
    have hge : k ≤ grownCap w k 0 e := grownCap_ge w _ _ _
    have hr := run_append_nil (P := P) w u o.type e i z hut hi1 hi2 ad2 k cap2 vs2 hl3 hc3 hk (by omega) (by rw [Nat.zero_add] at hbytes; omega)
    obtain ⟨π', x, S', h1, h2, h3, h4⟩ := grown_fin (cap := grownCap w k 0 e) hs (arr := vs2.toArray) (by simpa using hpw2) hl12 (by omega) (grownCap_le_maxLen w _ 0 e (by omega)) hzs hK
    rw [Nat.zero_add] at h2 h3
    exact fin _ _ π' x S' (by rw [hev]; exact hr) h1 h2 h3 h4
  -- a new row, behind what was there
  have fromOld : ∀ (ad : Addr) (cap : Nat) (vs : List Value), act.eval sO = .slice (some ad) n cap → vs.length = n * i.size → (∀ j u, vs[j]? = some u → w.cell? (ad.add j) = some u) → PW π vs.toArray olds → cap < n + k →
      (GrowK n k olds news z e S (fun x S' => AList P ops rest (a.put o.dst x) S' Q) ∨ FrostK n k i.size olds news e S (fun x S' => AList P ops rest (a.put o.dst x) S' Q)) → o.wp P act w (wpList P ops (Post D b0 w0 π Q) rest) (Post D b0 w0 π Q) := by
    intro ad cap vs hev hvl hvc hpw hlt hK
    have hge : n + k ≤ grownCap w (n + k) cap e := grownCap_ge w _ _ _
    have hr := run_append_grow (P := P) w u o.type e i z hut hi1 hi2 ad n cap vs hvl hvc ad2 k cap2 vs2 hl3 hc3 hlt h63 (growslice_fits (by omega) hbytes)
    obtain ⟨π', x, S', h1, h2, h3, h4⟩ := grown_fin (cap := grownCap w (n + k) cap e) hs (arr := vs.toArray ++ vs2.toArray) (hpw.join hpw2) hl12 hge (grownCap_le_maxLen w _ cap e hlen) hzs hK
    exact fin _ _ π' x S' (by rw [hev]; exact hr) h1 h2 h3 h4
  split at hK
  · rename_i B off m cap hget
    rw [hget] at hvx hx
    obtain ⟨hev, _, hcm⟩ := hvx.win_inv
    have hnm : n = m := by
      simp only [sourceA] at hx
      split at hx
      · split at hx
        · cases hx; rfl
        · cases hx
      · cases hx
    subst hnm
    by_cases hroom : n + k ≤ cap
    · obtain ⟨rfl, cells, hB, hfit, hq⟩ := hK.1 hroom
      obtain ⟨_, ⟨arr, hh, hp⟩, _⟩ := hs.obj B _ hB
      have hsz : arr.size = cells.length := hp.1
      have hr := run_append_room (P := P) w u o.type e i hut hi1 B n cap arr hh ad2 k cap2 vs2 hl3 hc3 hones hroom (by rw [hl3, hsz]; exact hfit)
      refine fin _ _ π _ _ (by rw [hev]; exact hr) (Pi.le_refl π) (hs.setRow hB (cs := (arr.toList.take (n * i.size) ++ vs2 ++ arr.toList.drop (n * i.size + vs2.length)).toArray) (cells' := cells.take (n * i.size) ++ news ++ cells.drop (n * i.size + k * i.size)) ?_) (.win _ _ _ _ hroom hcm) hq
      have := ((hp.take (n * i.size)).append hpw2).append (hp.drop (n * i.size + k * i.size))
      rw [hl3]
      simpa using this
    · rcases hp1 with ⟨h1, _⟩ | ⟨ad, cap1, vs, h1, h2, h3, h4, h5, h6⟩
      · rw [hev] at h1; cases h1
      · rw [hev] at h1
        cases h1
        exact fromOld _ _ vs hev h4 h5 h6 (by omega) (hK.2 (by omega))
  · rename_i es hget
    rw [hget] at hvx
    rcases hp1 with ⟨h1, h2⟩ | ⟨ad, cap1, vs, h1, h2, h3, h4, h5, h6⟩
    · exact fromNil h1 h2 hK
    · rw [h1] at hvx
      cases hvx
      exact fromOld ad _ vs h1 h4 h5 h6 (by omega) hK
  · rename_i hget
    rw [hget] at hvx hx
    have hev : act.eval sO = .slice none 0 0 := hvx.v_inv
    simp only [sourceA] at hx
    cases hx
    exact fromNil hev rfl hK
  · exact hK.elim
theorem AList.appendN {ops : Array Oper} {rest : List Oper} {o : Oper} {a : AAct} {Q : APost} {sO xO : Operand} {t u : TypeId}
    (hw : wantedA ops a o.guard = some true) (ho : o.op = .call { callee := .builtin .append, args := #[sO, xO], argTypes := #[t, u] })
    (h : AppendNK P t u (a.get sO) (a.get xO) S fun x S' => AList P ops rest (a.put o.dst x) S' Q) : AList P ops (o :: rest) a S Q := by
  intro D b0 w0 π w act hs ha
  refine wpList_inl (wanted_of rfl ha hw) ?_
  obtain ⟨e, bb, s, n, olds, cells, rfl, ht, hk, hx, hy, hK⟩ := h
  have hut := sliceD_parts ht
  have hvx := ha.eval sO
  have hvy := ha.eval xO
  obtain ⟨hl1, hp1⟩ := source_parts hs hvx hx
  obtain ⟨hl2, hp2⟩ := source_parts hs hvy hy
  obtain ⟨dsc, inf, hu1, hi1, hsz, _⟩ := tkind_parts hk
  have hn63 : ∃ ad cap, act.eval sO = .slice ad n cap ∧ n ≤ cap := by
    rcases hp1 with ⟨h1, h2⟩ | ⟨ad, cap1, vs, h1, h2, _⟩
    · exact ⟨none, 0, by rw [h1, h2], by omega⟩
    · exact ⟨some ad, cap1, h1, h2⟩
  obtain ⟨ad, cap, hev, hnc⟩ := hn63
  have hyv : ∃ ad2 cap2, act.eval xO = .slice ad2 0 cap2 := by
    rcases hp2 with ⟨h1, h2⟩ | ⟨ad2, cap2, vs, h1, h2, _⟩
    · exact ⟨none, 0, h1⟩
    · exact ⟨some ad2, cap2, h1⟩
  obtain ⟨ad2, cap2, hev2⟩ := hyv
  have hload : ∀ b : Addr, (loadCells b 0).run P w = .ok #[] w := by intro b; rfl
  have hrun : (Builtin.append_ #[u, u] o.type #[.slice ad n cap, .slice ad2 0 cap2]).run P w = .ok (.slice ad n cap) w := by
    cases ad <;> cases ad2 <;> simp [Builtin.append_, run_underlying hut, sizeOf, typeInfo, hi1, Builtin.lenOf, hnc, Builtin.firstCells, hload, storeCells]
  have hexec : (execOp act.eval o).run P w = .ok (.value (act.eval sO)) w := by
    unfold execOp
    simp only [ho, resolve, invoke, builtin, Sem.run_bind, Sem.run_pure, Result.andThen_ok, List.map_toArray, List.map_cons, List.map_nil, hev2, hev, hrun]
  unfold Oper.wp
  rw [hexec]
  exact hK D b0 w0 π w _ hs (ha.put o.dst hvx)

/-! ### copy -/
def copyA (P : Program) (t : TypeId) (x y : AV) (S : AS) : Option (AV × AS) :=
  match sliceD P t, x with
  | some e, .win B off n _ => match tkind P e, S B with
    | some (_, s), some (.var cells ety) => match sourceA S s y with
      | some (k, src) => if off + (min k n) * s ≤ cells.length ∧ src.all AV.one = true then
          some (.v (.int .i64 (min k n : Nat)), S.set B (.var (cells.take off ++ src.take (min k n * s) ++ cells.drop (off + min k n * s)) ety)) else none
      | none => none
    | _, _ => none
  | _, _ => none
theorem run_copyA (hs : Sim b0 w0 π S w) {t t2 : TypeId} {v u : Value} {x y r : AV} {S' : AS} (ty : TypeId) (hv : VR π v x) (hu : VR π u y) (h : copyA P t x y S = some (r, S')) :
    ∃ z w', (Builtin.copy_ #[t, t2] ty #[v, u]).run P w = .ok z w' ∧ Sim b0 w0 π S' w' ∧ VR π z r := by
  unfold copyA at h
  split at h
  · rename_i e B off n cap ht
    have hut := sliceD_parts ht
    split at h
    · rename_i bb s cells ety hk hB
      obtain ⟨dsc, inf, hu1, hi1, hsz, _⟩ := tkind_parts hk
      split at h
      · rename_i k src hsrc
        split at h
        · rename_i hc
          cases h
          cases hv
          obtain ⟨_, ⟨arr, hh, hp⟩, _⟩ := hs.obj B _ hB
          obtain ⟨hl2, hp2⟩ := source_parts hs hu hsrc
          have hsrc' : ∃ vs : List Value, vs.length = min k n * s ∧ (Builtin.lenOf u).run P w = .ok k w ∧ (Builtin.firstCells s (min k n) u).run P w = .ok vs.toArray w ∧ PW π vs.toArray (src.take (min k n * s)) := by
            rcases hp2 with ⟨rfl, rfl⟩ | ⟨ad, cap1, vs, rfl, h2, h3, h4, h5, h6⟩
            · refine ⟨[], by simp, by simp [Builtin.lenOf], by simp [Builtin.firstCells], ?_⟩
              simp
              exact ⟨rfl, by simp⟩
            · have hle : min k n * s ≤ k * s := Nat.mul_le_mul_right _ (Nat.min_le_left _ _)
              refine ⟨vs.take (min k n * s), by simp [h4, hle], by simp [Builtin.lenOf], ?_, ?_⟩
              · have hl : (vs.take (min k n * s)).length = min k n * s := by simp [h4, hle]
                have := run_firstCells_some (P := P) w s (min k n) ad k cap1 (vs.take (min k n * s)) hl (fun j u hj => by
                  rw [List.getElem?_take] at hj
                  split at hj
                  · exact h5 j u hj
                  · cases hj)
                simpa [Builtin.firstCells] using this
              · have := h6.take (min k n * s)
                simpa using this
          obtain ⟨vs, e1, e2, e3, e4⟩ := hsrc'
          have hones : ∀ v ∈ vs, v.oneCell' = true := by
            have := e4.ones (List.all_eq_true.2 fun a ha => List.all_eq_true.1 hc.2 a (List.mem_of_mem_take ha))
            simpa using this
          have hszz : arr.size = cells.length := hp.1
          have hst := run_storeCells_at P B off ety vs 0 arr w hh (by rw [hszz]; simpa [e1] using hc.1) hones
          refine ⟨_, _, ?_, hs.setRow hB (cs := (arr.toList.take off ++ vs ++ arr.toList.drop (off + vs.length)).toArray) ?_, .v _⟩
          · have hmin : Nat.min k n = min k n := rfl
            have hst' : (storeCells ⟨B, off, none⟩ vs).run P w = .ok () (w.setRow B (arr.toList.take off ++ vs ++ arr.toList.drop (off + vs.length)).toArray) := by
              simpa [Addr.add_lit] using hst
            simp [Builtin.copy_, run_underlying hut, e2, sizeOf, typeInfo, hi1, hsz, hmin, e3, hst', goInt]
          · have := ((hp.take off).append e4).append (hp.drop (off + vs.length))
            rw [e1] at this ⊢
            simpa using this
        · cases h
      · cases h
    · cases h
  · cases h
theorem GrowK.mono {n k : Nat} {olds news : List AV} {z : Value} {e : TypeId} {K K' : AV → AS → Prop} (hk : ∀ x S, K x S → K' x S) (h : GrowK n k olds news z e S K) : GrowK n k olds news z e S K' := fun B cap h1 h2 h3 => hk _ _ (h B cap h1 h2 h3)
theorem FrostK.mono {n k s : Nat} {olds news : List AV} {e : TypeId} {K K' : AV → AS → Prop} (hk : ∀ x S, K x S → K' x S) (h : FrostK n k s olds news e S K) : FrostK n k s olds news e S K' := ⟨h.1, fun B cap h1 => hk _ _ (h.2 B cap h1)⟩
theorem AppendVK.mono {t u : TypeId} {x y : AV} {K K' : AV → AS → Prop} (hk : ∀ x S, K x S → K' x S) (h : AppendVK P t u x y S K) : AppendVK P t u x y S K' := by
  obtain ⟨e, s, bytes, z, n, olds, k, news, h1, h2, h3, h4, h5, h6, h7, h8, h9, h10, hK⟩ := h
  refine ⟨e, s, bytes, z, n, olds, k, news, h1, h2, h3, h4, h5, h6, h7, h8, h9, h10, ?_⟩
  have hg : GrowK n k olds news z e S K ∨ FrostK n k s olds news e S K → GrowK n k olds news z e S K' ∨ FrostK n k s olds news e S K' := fun h => h.imp (GrowK.mono hk) (FrostK.mono hk)
  split at hK
  · exact ⟨fun h => by obtain ⟨e1, cells, e2, e3, e4⟩ := hK.1 h; exact ⟨e1, cells, e2, e3, hk _ _ e4⟩, fun h => hg (hK.2 h)⟩
  · exact hg hK
  · exact hg hK
  · exact hK.elim
theorem AppendNK.mono {t u : TypeId} {x y : AV} {K K' : AV → AS → Prop} (hk : ∀ x S, K x S → K' x S) (h : AppendNK P t u x y S K) : AppendNK P t u x y S K' := by
  obtain ⟨e, bb, s, n, olds, cells, h1, h2, h3, h4, h5, h6⟩ := h
  exact ⟨e, bb, s, n, olds, cells, h1, h2, h3, h4, h5, hk _ _ h6⟩
theorem NextK.mono {x : AV} {K K' : AV → AS → Prop} (hk : ∀ x S, K x S → K' x S) (h : NextK x S K) : NextK x S K' := by
  obtain ⟨B, M, ents, clock, seen, h1, h2, h3, h4, h5⟩ := h
  exact ⟨B, M, ents, clock, seen, h1, h2, h3, fun e => hk _ _ (h4 e), fun p hp => hk _ _ (h5 p hp)⟩
theorem AList.copy {ops : Array Oper} {rest : List Oper} {o : Oper} {a : AAct} {Q : APost} {xO yO : Operand} {t u : TypeId} {r : AV} {S' : AS}
    (hw : wantedA ops a o.guard = some true) (ho : o.op = .call { callee := .builtin .copy, args := #[xO, yO], argTypes := #[t, u] })
    (hc : copyA P t (a.get xO) (a.get yO) S = some (r, S')) (h : AList P ops rest (a.put o.dst r) S' Q) : AList P ops (o :: rest) a S Q := by
  intro D b0 w0 π w act hs ha
  refine wpList_inl (wanted_of rfl ha hw) ?_
  obtain ⟨z, w', hrun, hs', hr⟩ := run_copyA (P := P) (t2 := u) hs o.type (ha.eval xO) (ha.eval yO) hc
  have hexec : (execOp act.eval o).run P w = .ok (.value z) w' := by
    unfold execOp
    simp only [ho, resolve, invoke, builtin, Sem.run_bind, Sem.run_pure, Result.andThen_ok, List.map_toArray, List.map_cons, List.map_nil, hrun]
  unfold Oper.wp
  rw [hexec]
  exact h D b0 w0 π w' _ hs' (ha.put o.dst hr)
theorem AList.nextM {ops : Array Oper} {rest : List Oper} {o : Oper} {a : AAct} {Q : APost} {xO : Operand}
    (hw : wantedA ops a o.guard = some true) (ho : o.op = .next xO false) (h : NextK (a.get xO) S fun x S' => AList P ops rest (a.put o.dst x) S' Q) : AList P ops (o :: rest) a S Q := by
  intro D b0 w0 π w act hs ha
  refine wpList_inl (wanted_of rfl ha hw) ?_
  obtain ⟨z, w', y, S', hrun, hs', hr, hK⟩ := run_nextM (P := P) hs o.type (ha.eval xO) h
  have hexec : (execOp act.eval o).run P w = .ok (.value z) w' := by
    unfold execOp
    simp only [ho, Sem.run_bind, hrun, Result.andThen_ok, Sem.run_pure]
  unfold Oper.wp
  rw [hexec]
  exact hK D b0 w0 π w' _ hs' (ha.put o.dst hr)

/-! ### a row that is written no more -/
/-- What is known of a value may be told otherwise: a row of the call's own that is written no more. -/
def Frost (S : AS) (x : AV) (S' : AS) (x' : AV) : Prop := ∀ b0 w0 π w v, Sim b0 w0 π S w → VR π v x → ∃ π', π.le π' ∧ Sim b0 w0 π' S' w ∧ VR π' v x'
theorem Frost.mk {B : Nat} {cells : List AV} {e : TypeId} (hB : S B = some (.var cells e)) :
    ∀ b0 w0 π w, Sim b0 w0 π S w → ∃ π', π.le π' ∧ Sim b0 w0 π' (S.del B) w ∧ ∀ (s n cap : Nat), 0 < s → n * s ≤ cells.length → n ≤ cap → cap ≤ maxLen → VR π' (.slice (some ⟨B, 0, none⟩) n cap) (.sl (chunk s n cells) none) := by
  intro b0 w0 π w hs
  obtain ⟨hb, ⟨arr, hh, hp⟩, hn⟩ := hs.obj B _ hB
  let π' : Pi := fun b o => if b = B then arr[o]? else π b o
  have hle : π.le π' := by
    intro b o x hx
    by_cases e : b = B
    · subst e; rw [hn] at hx; cases hx
    · simp [π', e, hx]
  refine ⟨π', hle, ⟨hs.below, hs.base, ?_, ?_⟩, ?_⟩
  · intro b o x hx
    by_cases e : b = B
    · subst e
      simp only [π', if_true] at hx
      rw [cell_of_row w b o arr _ (0, 0) hh]; exact hx
    · exact hs.pi b o x (by simpa [π', e] using hx)
  · intro b o hbo
    unfold AS.del at hbo
    split at hbo
    · cases hbo
    · rename_i e
      exact ⟨(hs.obj b o hbo).1, (hs.obj b o hbo).2.pi hle fun j => by simp [π', e]⟩
  · intro s n cap h0 hfit hn' hm
    refine .sl ⟨B, 0, none⟩ n cap s _ none (fun i j => arr[i * s + j]?.getD undef) (chunk_length s n cells) (fun el hel => chunk_mem s n cells el hfit hel) (fun _ => rfl) hn' hm ?_ ?_ (by simp)
    · intro i j hi hj
      have hlt : i * s + j < arr.size := by rw [hp.1]; have := lt_rows hi hj; omega
      simp [π', hlt]
    · intro i j el a he ha
      have hget := chunk_get s n cells i j el a he ha
      have hlt := (List.getElem?_eq_some_iff.1 hget).1
      have hlt' : i * s + j < arr.size := by rw [hp.1]; exact hlt
      have := (hp.2 (i * s + j) arr[i * s + j] a (Array.getElem?_eq_getElem hlt') hget).mono hle
      simpa [hlt'] using this
theorem Frost.refl (S : AS) (x : AV) : Frost S x S x := fun b0 w0 π w v hs hv => ⟨π, Pi.le_refl π, hs, hv⟩
theorem Frost.win {B n cap s : Nat} {cells : List AV} {e : TypeId} (hB : S B = some (.var cells e)) (hs : 0 < s) (hfit : n * s ≤ cells.length) : Frost S (.win B 0 n cap) (S.del B) (.sl (chunk s n cells) none) := by
  intro b0 w0 π w v hsim hv
  obtain ⟨π', h1, h2, h3⟩ := Frost.mk hB b0 w0 π w hsim
  cases hv with
  | win _ _ _ _ hn hm => exact ⟨π', h1, h2, h3 s n cap hs hfit hn hm⟩
theorem Frost.tup2 {S' : AS} {x y x' : AV} (h : Frost S x S' x') : Frost S (.tup [x, y]) S' (.tup [x', y]) := by
  intro b0 w0 π w v hs hv
  obtain ⟨cs, rfl, hp⟩ := hv.tup_inv
  obtain ⟨v0, hv0, hr0⟩ := hp.get (i := 0) rfl
  obtain ⟨v1, hv1, hr1⟩ := hp.get (i := 1) rfl
  obtain ⟨π', h1, h2, h3⟩ := h b0 w0 π w v0 hs hr0
  refine ⟨π', h1, h2, .tup _ _ hp.1 ?_⟩
  intro i x a hx ha
  match i with
  | 0 => rw [hv0] at hx; cases hx; simp at ha; subst ha; exact h3
  | 1 => rw [hv1] at hx; cases hx; simp at ha; subst ha; exact hr1.mono h1
  | i + 2 => simp at ha
end
end Go.Aw
