/- Regions whose order is left open, part 5: what the run says holds of the machine. Conditions: none. -/
import Derived.Test.YtpddpbcfkmnmaaaGreatDoorRcDraw4
set_option linter.unusedVariables false
set_option linter.unusedSimpArgs false
namespace Go.Rc

theorem finEnv_get {N : Nat} : ∀ (l : List Oper) (vs : List AV) (env : Tr AV), vs.length = l.length → ∀ t v, (exD.finEnv N l vs env).get t = some v →
    (∃ (j : Nat) (o : Oper), l[j]? = some o ∧ o.dst = some t ∧ vs[j]? = some v) ∨ ((∀ (j : Nat) (o : Oper), l[j]? = some o → o.dst ≠ some t ∨ N ≤ t) ∧ env.get t = some v) := by
  intro l
  induction l with
  | nil => intro vs env hl t v h; refine .inr ⟨fun j o hj => by simp at hj, ?_⟩; simpa [exD.finEnv] using h
  | cons o r ih =>
    intro vs env hl t v h
    cases vs with
    | nil => simp at hl
    | cons u vs =>
      simp only [exD.finEnv] at h
      rcases ih vs _ (by simpa using hl) t v h with ⟨j, oj, h1, h2, h3⟩ | ⟨h1, h2⟩
      · exact .inl ⟨j + 1, oj, by simpa using h1, h2, by simpa using h3⟩
      · have keep : (o.dst ≠ some t ∨ N ≤ t) → env.get t = some v → (∃ (j : Nat) (o' : Oper), (o :: r)[j]? = some o' ∧ o'.dst = some t ∧ (u :: vs)[j]? = some v) ∨ ((∀ (j : Nat) (o' : Oper), (o :: r)[j]? = some o' → o'.dst ≠ some t ∨ N ≤ t) ∧ env.get t = some v) := fun g1 g2 => .inr ⟨fun j oj hj => by
          cases j with
          | zero => simp at hj; subst hj; exact g1
          | succ j => exact h1 j oj (by simpa using hj), g2⟩
        cases hd : o.dst with
        | none =>
          rw [hd] at h2
          exact keep (.inl (by rw [hd]; simp)) h2
        | some d =>
          rw [hd] at h2
          simp only [setO] at h2
          split at h2
          · rcases Tr.get_set 64 _ _ _ _ _ h2 with ⟨rfl, rfl⟩ | ⟨g1, g2⟩
            · exact .inl ⟨0, o, rfl, hd, rfl⟩
            · exact keep (.inl (by rw [hd]; intro e; cases e; exact g1 rfl)) g2
          · rename_i hb
            by_cases e : d = t
            · subst e
              refine keep (.inr ?_) h2
              rcases Nat.lt_or_ge d N with h | h
              · have := Nat.ble_eq_true_of_le (n := Nat.succ d) (m := N) h
                simp_all
              · exact h
            · exact keep (.inl (by rw [hd]; intro e'; cases e'; exact e rfl)) h2

theorem cert_of {T : Tb} {cf : FuncId → List AV → HS → CR} {all : List Oper} {N : Nat} {env0 : Tr AV} {hs hsF : HS} {vals : List AV} {stg : List HS}
    (hst : (edgesOk all 0 && dstsOk all && dstsLt N all && chainOk (masks all []) all 0 []) = true) (hrun : exD1 T cf all (masks all []) N env0 all 0 [] hs [hs] = .mk vals stg hsF)
    (hchk : chkR T all (masks all []) N env0 (nth vals) (stgAt stg hs) all 0 = true) :
    Cert T cf all (masks all []) N env0 (nth vals) (stgAt stg hs) ∧ vals.length = all.length ∧ stgAt stg hs 0 = hs ∧ stgAt stg hs (cnt (actAt all) all.length) = hsF := by
  simp only [Bool.and_eq_true] at hst
  obtain ⟨⟨⟨h1, h2⟩, h3⟩, h4⟩ := hst
  obtain ⟨⟨rv, g1, g1'⟩, ⟨rs, g2⟩, g3, g4⟩ := exD1_spec all 0 [] hs [hs] vals stg hsF hrun rfl (fun i => by simp) rfl rfl
  have hedge : ∀ (i : Nat) (o : Oper), all[i]? = some o → ∀ e, e ∈ o.after.toList → bindsA e = true → e.on < i := fun i o hi e he hb => by
    have := edgesOk_iff all 0 h1 i o hi e he hb
    omega
  have hmask : ∀ (i : Nat) (o : Oper), all[i]? = some o → ∀ j, bef (masks all []) j i = true → ∃ e, e ∈ o.after.toList ∧ bindsA e = true ∧ (j = e.on ∨ bef (masks all []) j e.on = true) := by
    obtain ⟨_, _, _, hm⟩ := masks_spec all []
    intro i o hi j hj
    exact hm i o hi j (by simpa [bef] using hj)
  have hmlen : (masks all []).length = all.length := by
    obtain ⟨r, e1, e2, _⟩ := masks_spec all []
    rw [e1]
    simpa using e2
  have hlt : ∀ (i k : Nat), bef (masks all []) k i = true → k < i := by
    intro i
    induction i using Nat.strongRecOn with
    | _ i ih =>
      intro k hk
      rcases Nat.lt_or_ge i all.length with hi | hi
      · have ho : all[i]? = some all[i] := by simp [hi]
        obtain ⟨e, e1, e2, e3⟩ := hmask i _ ho k hk
        have := hedge i _ ho e e1 e2
        rcases e3 with rfl | e3
        · exact this
        · have := ih e.on this k e3
          omega
      · unfold bef at hk
        rw [List.getD_eq_getElem?_getD, List.getElem?_eq_none (by omega)] at hk
        simp at hk
  have hcon : ∀ i k, bef (masks all []) k i = true → nth (vals.take i) k = nth vals k := fun i k hk => by
    have := hlt i k hk
    rw [nth_eq, nth_eq, List.getElem?_take, if_pos this]
  have hS : ∀ (s : Nat) (h : HS), stg[s]? = some h → stgAt stg hs s = h := fun s h hh => by
    unfold stgAt
    rw [nth_eq, hh]
    rfl
  refine ⟨⟨hedge, hmask, fun t i o hi hd => by have := dstsOk_iff all h2 0 t i o hi hd; simpa using this, fun t i o hi hd => dstsLt_iff all h3 t i o hi hd, fun i j o o' hi hj hij ha ha' => by
    have := (chainOk_iff all 0 [] h4).2 i j o o' hi hj hij ha ha'
    simpa using this, fun i o hi => ?_⟩, by rw [g1]; simpa using g1', hS 0 hs (by rw [g2]; rfl), hS _ _ (by simpa using g3)⟩
  have hf := g4 i o hi
  rw [Nat.zero_add] at hf
  unfold Fact at hf
  rw [wantJ_congr (hcon i), evJ_congr (hcon i)] at hf
  cases hw : wantJ all (masks all []) N (nth vals) i o.guard with
  | none => rw [hw] at hf; exact hf
  | some b =>
    rw [hw] at hf
    cases b with
    | false =>
      simp only at hf ⊢
      refine ⟨by rw [nth_eq]; exact hf.1, fun ha => ?_⟩
      have := hf.2 ha
      unfold stgAt
      rw [nth_eq, nth_eq, this]
    | true =>
      simp only at hf ⊢
      obtain ⟨v, hv, hc⟩ := hf
      refine ⟨v, by rw [nth_eq]; exact hv, ?_⟩
      cases ha : isAct o.op with
      | true =>
        rw [ha] at hc
        simp only at hc ⊢
        obtain ⟨x, x', e1, e2, e3⟩ := hc
        rw [hS _ _ e1, hS _ _ e2]
        exact e3
      | false =>
        rw [ha] at hc
        simp only at hc ⊢
        cases hp : stepP T o.op (evJ all (masks all []) env0 (nth vals) i) with
        | some v' => exact .inl (by rw [hc v' hp])
        | none =>
          have := chkR_iff all 0 hchk i o hi ha (by rw [Nat.zero_add]; exact hw) (by rw [Nat.zero_add]; exact hp)
          rw [Nat.zero_add] at this
          obtain ⟨v', g5, g6⟩ := this
          rw [nth_eq, hv] at g5
          cases g5
          exact .inr g6

theorem exD_ok {P : Program} {T : Tb} (hT : TbOk P T) (hm : P.follows .mixedOrders = true) {cf : FuncId → List AV → HS → CR} (hcf : CallOk P cf) {ro : Option Nat} {N id : Nat} {ops : Array Oper} {env : Tr AV} {hs : HS} {ds : List Df} {G : Ctx} {ρ : List Value} {H : Heap} {w : World} {a : Act} {Q : Exit → Act → World → Prop}
    (hG : G.P = P) (hst : Sat G ρ H w) (hh : HtOk hs H) (he : EnvOk ρ (Fz G ρ H w) w env a N) (hd : DsOk ρ (Fz G ρ H w) w ds a.defers) (hq : Done G ρ H w N Q (exD T cf N ops.toList env hs ds)) : (Code.region id ops true).wpIn (Fw ro) 0 P Q a w := by
  unfold exD at hq
  split at hq
  · rename_i hstat
    split at hq
    · rename_i vals stg hsF hrun
      split at hq
      · rename_i hchk
        obtain ⟨C, hvl, hS0, hSF⟩ := cert_of hstat hrun hchk
        obtain ⟨d1, d2⟩ := hst.drew
        have hk := hst.kp d2
        refine wpIn_region_any hm ?_
        refine any_ok (ρ0 := ρ) (H0 := H) (w0 := w) (ds := ds) hT hcf hG C rfl ?_ ops.size (Array.replicate ops.size false) a _ ⟨by simp, fun i hi => ?_, ρ, H, d1, d2, ?_, he.1, hd.keep d2.rp hk, fun j o d v h1 h2 h3 h4 => ?_, fun t v h1 h2 => ?_⟩ ?_
        · intro ρ' H' a' w' s1 s2 s3 s4 s5 s6 s7
          refine hq ρ' H' w' a' _ s1 s2 (by rw [← hSF]; exact s3) ⟨s4, fun t v ht => ?_⟩ s5 rfl
          rcases finEnv_get _ _ _ hvl t v ht with ⟨j, o, g1, g2, g3⟩ | ⟨g1, g2⟩
          · exact ⟨C.dstN t j o g1 g2, s6 j o t v g1 g2 (by rw [nth_eq]; exact g3)⟩
          · refine s7 t v g2 fun j o hj hdj => ?_
            rcases g1 j o hj with h | h
            · exact h hdj
            · have := C.dstN t j o hj hdj
              omega
        · have : lst (Array.replicate ops.size false) i = false := by
            unfold lst
            simp only [Array.getD_eq_getD_getElem?, Array.getElem?_replicate]
            split <;> rfl
          rw [this] at hi
          cases hi
        · have : cnt (fun j => actAt ops.toList j && lst (Array.replicate ops.size false) j) ops.toList.length = 0 := by
            have h0 : ∀ n, cnt (fun _ => false) n = 0 := fun n => by induction n with
              | zero => rfl
              | succ n ih => simp only [cnt]; exact ih
            rw [← h0 ops.toList.length]
            refine cnt_congr fun j hj => ?_
            have : lst (Array.replicate ops.size false) j = false := by
              unfold lst
              simp only [Array.getD_eq_getD_getElem?, Array.getElem?_replicate]
              split <;> rfl
            rw [this, Bool.and_false]
          rw [this, hS0]
          exact hh
        · have : lst (Array.replicate ops.size false) j = false := by
            unfold lst
            simp only [Array.getD_eq_getD_getElem?, Array.getElem?_replicate]
            split <;> rfl
          rw [this] at h3
          cases h3
        · exact ⟨(he.2 t v h1).1, (he.2 t v h1).2.keep d2.rp hk⟩
        · have hall : ∀ n, cnt (fun _ => true) n = n := fun n => by induction n with
            | zero => rfl
            | succ n ih => simp only [cnt, ih]
          rw [show ops.size = ops.toList.length by simp, ← hall ops.toList.length]
          rw [hall ops.toList.length]
          rw [← hall ops.toList.length]
          refine (cnt_congr fun j hj => ?_).trans (by rw [hall])
          have : lst (Array.replicate (cnt (fun _ => true) ops.toList.length) false) j = false := by
            unfold lst
            simp only [Array.getD_eq_getD_getElem?, Array.getElem?_replicate]
            split <;> rfl
          rw [this]
          rfl
      · exact hq.elim
    · exact hq.elim
  · exact hq.elim

end Go.Rc
