/- strings.Builder in a writer: String. No condition beyond the bounds named. -/
import Derived.Test.YtedicdnflpjhkaaDoorS15
import Derived.Lib.UnsafeStr
import Derived.Lib.Strings
import Derived.Lib.Walk
import Derived.Shelf.RegionOpenPlain
set_option linter.unusedSimpArgs false
set_option linter.unusedVariables false
set_option maxRecDepth 100000
set_option maxHeartbeats 1000000
namespace Go.Proofs.YtedicdnflpjhkaaDoor
open Go.Aw Go.RowKit
theorem freeze_cell (w : World) (g n o : Nat) (b : Nat) : (w.freeze ⟨g, 0, none⟩ n).cell? ⟨b, o, none⟩ = w.cell? ⟨b, o, none⟩ := by
  unfold World.freeze
  split
  · rfl
  · simp only [World.cell?, Array.getElem?_modify]
    by_cases e : g = b
    · rw [if_pos e]
      cases hb : w.heap[b]? with
      | none => rfl
      | some ob => cases ob <;> rfl
    · rw [if_neg e]
theorem freeze_grown (w : World) (g n : Nat) : w.grownBy (w.freeze ⟨g, 0, none⟩ n) (some g) := by
  unfold World.freeze
  split
  · exact ⟨rfl, rfl, rfl, Nat.le_refl _, fun _ _ _ => rfl⟩
  · exact ⟨rfl, rfl, rfl, by simp, fun k _ hk => by
      simp only [Array.getElem?_modify]
      rw [if_neg (fun e => hk (by rw [e]))]⟩
theorem calls18 (B g cap : Nat) (p : Value) (l : List UInt8) (cur : Array Value) (w : World) (h0 : l ≠ []) (hcap : l.length ≤ cap) (hcm : cap ≤ maxLen) (hb : w.heap[B]? = some (.cells #[p, .slice (some ⟨g, 0, none⟩) l.length cap] 51 (0, 0)))
    (hg : w.heap[g]? = some (.cells cur 5 (0, 0))) (hcs : cur.size = cap) (hcell : ∀ j x, l[j]? = some x → w.cell? ((⟨g, 0, none⟩ : Addr).add j) = some (.int .u8 x.toNat)) :
    Calls Tryd.prog 18 #[.pointer (some ⟨B, 0, none⟩)] w fun e w' => e = .returned (.string ⟨l.toArray⟩) ∧ w' = w.drew.freeze ⟨g, 0, none⟩ l.length := by
  have hl0 : l.length ≠ 0 := by simpa using h0
  have c1 : w.drew.cell? ⟨B, 1, none⟩ = some (.slice (some ⟨g, 0, none⟩) l.length cap) := by
    have : w.drew.heap[B]? = some (.cells #[p, .slice (some ⟨g, 0, none⟩) l.length cap] 51 (0, 0)) := hb
    simp [World.cell?, this]
  have hSD : (Builtin.unsafeSliceData_ #[47] 84 #[.slice (some ⟨g, 0, none⟩) l.length cap]).run Tryd.prog w.drew = .ok (.pointer (some ⟨g, 0, none⟩)) w.drew :=
    Lib.run_unsafeSliceData_row _ _ _ _ _ _ (by omega)
  have hUS : (Builtin.unsafeString_ #[84, 3] 9 #[.pointer (some ⟨g, 0, none⟩), .int .i64 l.length]).run Tryd.prog w.drew = .ok (.string ⟨l.toArray⟩) (w.drew.freeze ⟨g, 0, none⟩ l.length) := by
    refine Lib.run_unsafeString_row w.drew 84 3 9 5 Tryd.underlying84 (by kernel_rfl) g cur.size (by have hg' : w.drew.heap[g]? = some (.cells cur 5 (0, 0)) := hg; simp [World.shape?, hg']) l h0 (by omega) (by unfold maxLen at hcm; omega) ?_
    intro j x hx
    exact hcell j x hx
  have mixed : Tryd.prog.follows .mixedOrders = true := by kernel_rfl
  go_enter Tryd.func18, Tryd.ntmps18
  go_wp2
  go_region_o
  all_goals (go_wp2; go_ret; exact ⟨rfl, rfl⟩)
theorem string_ok (R : AS) (B : Nat) (l : List UInt8) (S : AS) (h : WrT R B l S) (hne : l ≠ []) : ACall Tryd.prog 18 [.ptr B 0] S fun r T => r = .ret (.str l) ∧ T = R := by
  obtain ⟨h1, h2, x, y, h3, h4, h5⟩ := h
  rcases h5 with ⟨_, h5⟩ | ⟨g, cap, rfl, e2, e3, e4⟩
  · exact absurd h5 hne
  · intro b0 w0 π w vs hs ha
    obtain ⟨u, rfl, hu⟩ := ha.one
    cases hu
    obtain ⟨hb, ⟨cs, hcs, hpw⟩, hn⟩ := hs.obj B _ h3
    obtain ⟨p, v, rfl, _, hv⟩ := PW.two hpw
    obtain ⟨hgb, ⟨cur, hcur, hsz, hncap, hcm⟩, hgn⟩ := hs.obj g _ e2
    have hne' : bytesA l ≠ [] := by simpa [bytesA] using hne
    obtain ⟨ad, cap', f, rfl, hsp, hc1, hc2, hp, hr, ho⟩ := sl_parts hv hne' (s := 1) (by intro el hel; obtain ⟨b, _, rfl⟩ := List.mem_map.1 hel; rfl)
    obtain ⟨rfl, rfl⟩ := ho _ rfl
    rw [bytesA_length] at hc1 hp
    have hcell : ∀ j x, l[j]? = some x → w.cell? ((⟨g, 0, none⟩ : Addr).add j) = some (.int .u8 x.toNat) := by
      intro j x hx
      have hj : j < l.length := (List.getElem?_eq_some_iff.1 hx).1
      have h1 := hs.pi _ _ _ (hp j (by omega))
      have h2 := hr j 0 [.v (.int .u8 x.toNat)] (.v (.int .u8 x.toNat)) (by simp [bytesA, hx]) rfl
      rw [Nat.mul_one, Nat.add_zero] at h2
      have h3 := h2.v_inv
      rw [h3] at h1
      rw [add_off]
      exact h1
    rw [bytesA_length] at hcs
    refine (calls18 B g cap p l cur w hne hc1 hc2 hcs hcur (by simpa using hsz) hcell).mono ?_
    rintro e w' ⟨rfl, rfl⟩
    have hg := freeze_grown w.drew g l.length
    have hsim : Sim b0 w0 π (S.del g) (w.drew.freeze ⟨g, 0, none⟩ l.length) := hs.drew.grown hg (fun k e => by cases e; exact hgb) (fun k o x e hx => by rw [freeze_cell]; exact hs.drew.pi _ _ _ hx) (fun k e => by cases e; exact AS.del_self S g) (AS.del_le S g)
    refine ⟨π, .ret (.str l), R, Pi.le_refl π, hsim.le ?_, .str _ _ (by simp), rfl, rfl⟩
    intro b o hbo
    have hbg : b ≠ g := fun e => by subst e; rw [e3] at hbo; cases hbo
    simp [AS.del, hbg, h2 _ _ hbo]
end Go.Proofs.YtedicdnflpjhkaaDoor
