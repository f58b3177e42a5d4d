/- A run of a function, part 3: calls, rounds, code. Conditions: none. -/
import Derived.Test.YtbdgmbaflfmooaaGreatDoorRcRunB
set_option linter.unusedVariables false
set_option linter.unusedSimpArgs false
namespace Go.Rc

variable {P : Program} {T : Tb}

theorem dsK_ok (hT : TbOk P T) (hN : NameOk P) {run : RunF} (hrun : RunOk P run) {fn : Func} {tmps : Array Value} {R : Ending → World → Prop} (ds : List Df) :
    ∀ (l : List Deferred) (m : Option AV) (hs : HS) (κ : HS → Prop) (π : KV) (G : Ctx) (ρ : List Value) (H : Heap) (w : World) (u : FrameMode), G.P = P → Sat G ρ H w → HtOk hs H → DsOk ρ (Fz G ρ H w) w ds l → modeR ρ (Fz G ρ H w) w m u → dsK P T run ds m hs κ π →
    (∀ hs2, κ hs2 → ∀ ρ' H' w', Sat G ρ' H' w' → Step ρ ρ' H H' w w' → Ht2 hs H hs2 H' → ∃ v, (results fn tmps).run P w' = .ok v w' ∧ R (.returned v) w') →
    (∀ v hs2, π v hs2 → ∀ ρ' H' w' x, Sat G ρ' H' w' → Step ρ ρ' H H' w w' → Ht2 hs H hs2 H' → VR ρ' (Fz G ρ' H' w') w' v x → R (.panicked [{ v := x, recovered := false }]) w') → LeavesInM Fence.wide 0 P fn tmps R l u w := by
  induction ds with
  | nil =>
    intro l m hs κ π G ρ H w u hG hst hh hd hu hk hK hP
    obtain rfl : l = [] := List.eq_nil_of_length_eq_zero hd.1
    cases m with
    | none =>
      simp only [modeR] at hu
      subst hu
      exact hK _ hk ρ H w hst (Step.refl ρ H w) hh.same2
    | some v =>
      obtain ⟨x, rfl, hx⟩ := hu
      exact hP _ _ hk ρ H w x hst (Step.refl ρ H w) hh.same2 hx
  | cons d ds ih =>
    intro l m hs κ π G ρ H w u hG hst hh hd hu hk hK hP
    cases l with
    | nil => have := hd.1; simp at this
    | cons e l =>
      have hd0 := hd.2 0 d e rfl rfl
      have hd' : DsOk ρ (Fz G ρ H w) w ds l := ⟨by have := hd.1; simpa using this, fun i d e h1 h2 => hd.2 (i + 1) d e (by simpa using h1) (by simpa using h2)⟩
      have hne : u ≠ .run := by
        cases m with
        | none => simp only [modeR] at hu; rw [hu]; simp
        | some v => obtain ⟨x, rfl, _⟩ := hu; simp
      cases d with
      | mark id =>
        obtain ⟨r, hρ, htar⟩ := hd0
        simp only [dsK] at hk
        split at hk
        · rename_i hg
          have hH := hh.2 id _ hg
          obtain ⟨r', e', hheap⟩ := hst.obj id _ _ hH hρ
          cases e'
          have hlt := (Array.getElem?_eq_some_iff.1 hheap).1
          have hch := hst.change (w' := w.putObj r (.deferred none)) hH hρ .dead (.pointer (some ⟨r, 0, none⟩)) rfl rfl rfl (by simp)
            (fun b hb hne => World.putObj_heap_other (fun e => hne rfl (by rw [e]; rfl))) (fun b hb _ => by cases hb) (.inl rfl) (fun hk hr => trivial)
          rw [set_same hρ] at hch
          obtain ⟨s1, s2⟩ := hch
          have hkp := hst.kp s2
          have hu' : modeR ρ (Fz G ρ (H.set id .dead) (w.putObj r (.deferred none))) (w.putObj r (.deferred none)) m u := by
            cases m with
            | none => exact hu
            | some v => obtain ⟨x, e, hx⟩ := hu; exact ⟨x, e, hx.keep s2.rp hkp⟩
          have t := hh.put2 hg .dead
          refine ⟨hne, .inl ⟨r, _, htar, run_takeDeferred hheap, ?_⟩⟩
          exact ih l m (hs.put id .dead) κ π G ρ _ _ u hG s1 t.1 (hd'.keep s2.rp hkp) hu' hk (fun hs2 h ρ2 H2 w2 t1 t2 t3 => hK hs2 h ρ2 H2 w2 t1 (s2.trans t2) (t.trans t3)) (fun v hs2 h ρ2 H2 w2 x t1 t2 t3 t4 => hP v hs2 h ρ2 H2 w2 x t1 (s2.trans t2) (t.trans t3) t4)
        · exact hk.elim
      | call f args caps =>
        obtain ⟨cs, hdt, hda, hdc⟩ := hd0
        have hall : AllR (VR ρ (Fz G ρ H w) w) (args ++ caps) (e.args ++ cs).toList := by
          rw [Array.toList_append]
          exact hda.append hdc
        simp only [dsK] at hk
        obtain ⟨et, eargs⟩ := e
        simp only at hdt hda hall
        subst hdt
        obtain ⟨⟨fn', c', h1, h2⟩, h3⟩ := dfK_ok hT hrun hG hst hh hall hu hk (R := fun e u' w' => match e with
              | .returned _ => LeavesInM Fence.wide 0 P fn tmps R l (settle u') w'
              | .panicked chain => LeavesInM Fence.wide 0 P fn tmps R l (raised u' chain) w'
              | .outgrown => R .outgrown w') (fun hs' hk ρ' H' w' u' x s1 s2 s3 s4 => by
            exact ih l none hs' κ π G ρ' H' w' (settle u') hG s1 s3.1 (hd'.keep s2.rp (hst.kp s2)) s4 hk (fun hs2 h ρ2 H2 w2 t1 t2 t3 => hK hs2 h ρ2 H2 w2 t1 (s2.trans t2) (s3.trans t3)) (fun v hs2 h ρ2 H2 w2 x t1 t2 t3 t4 => hP v hs2 h ρ2 H2 w2 x t1 (s2.trans t2) (s3.trans t3) t4))
        exact ⟨hne, .inr ⟨(fun h => by cases h), _, _, _, _, rfl, by simp only [invoke]; exact run_callFunc hN h1 h2 _ _, fun _ _ => trivial, h3.mono (fun e u' w' h => by cases e <;> exact h)⟩⟩

theorem fK_ok (hT : TbOk P T) (hN : NameOk P) {run : RunF} (hrun : RunOk P run) : CallOk P (fK P T run) := by
  intro f args hs κ π G ρ H w xs hG hst hh hargs hk R hR hP
  unfold fK at hk
  split at hk
  · rename_i fn hf
    split at hk
    · rename_i c hb
      split at hk
      · rename_i hl
        have hl' := Nat.le_of_ble_eq_true hl
        have henv := enter_env (N := fn.ntmps) hargs hl'
        refine .inl ⟨run_callFunc hN hf hb xs w, callsIn_wide.1 (callsIn_of_wp_marks (F := Fence.wide) (n := 0) hf hb trivial ?_)⟩
        have hInF : InF P fn.ntmps (some f) c := fun f' e => by cases e; exact ⟨fn, c, hf, hb, rfl, fun b h => h⟩
        refine (hrun fn.ntmps (some f) none c _ hs [] _ G ρ H w _ _ hG hInF hst hh henv DsOk.nil hk ?_).wp
        intro fin env hs' ds hk ρ' H' w' a' e s1 s2 s3 s4 s5 s6
        have go : ∀ (m : Option AV) (u : FrameMode), dsK P T run ds m hs' (resK T fn env κ) π → modeR ρ' (Fz G ρ' H' w') w' m u → LeavesInM Fence.wide 0 P fn a'.tmps R a'.defers u w' := by
          intro m u hk hu
          refine dsK_ok hT hN hrun ds a'.defers m hs' _ _ G ρ' H' w' u hG s1 s3.1 s5 hu hk (fun hs2 h ρ2 H2 w2 t1 t2 t3 => ?_) (fun v hs2 h ρ2 H2 w2 x t1 t2 t3 t4 => hP v hs2 h ρ2 H2 w2 x t1 (s2.trans t2) (s3.trans t3) t4)
          unfold resK at h
          split at h
          · rename_i l hres
            obtain ⟨x, g1, g2⟩ := results_ok hT t1 t3.1 (s4.keep t2.rp (s1.kp t2)) hres
            exact ⟨x, g1, hR _ _ h ρ2 H2 w2 x t1 (s2.trans t2) (s3.trans t3) g2⟩
          · exact h.elim
        cases fin with
        | norm => cases s6; exact go none _ hk rfl
        | ret => cases s6; exact go none _ hk rfl
        | exit id => exact hk.elim
        | pan v => obtain ⟨x, rfl, hx⟩ := s6; exact go (some v) _ hk ⟨x, rfl, hx⟩
      · exact hk.elim
    · exact hk.elim
  · exact hk.elim

theorem roundK_ok {run : RunF} (hrun : RunOk P run) : RoundOk P (roundK run) := by
  intro id args hs κ G ρ H w l xs hG hst hh hρ hargs hk R hR
  unfold roundK at hk
  split at hk
  · rename_i pend N ps assign body env hg
    obtain ⟨r, hr1, hr2, hr3, hr4, hr5, hr6, hr7, hr8, hr9, hr10⟩ := hst.putLoop (hh.2 _ _ hg) hρ
    split at hk
    · rename_i hlen
      have hlen := Nat.eq_of_beq_eq_true hlen
      have hxs : xs.size = args.length := by rw [← hargs.1]; simp
      refine ⟨r.fn, (r.params.zip xs).foldl (fun tmps (t, a) => tmps.setIfInBounds t a) r.tmps, assign, body, by rw [← hr5, ← hr6]; exact run_yield hr1 (by rw [hr4, hxs, hlen]; simp), ?_⟩
      refine roundIn_of_wpIn (F := Fence.wide) trivial ?_
      have hfold : (r.params.zip xs).foldl (fun tmps (t, a) => tmps.setIfInBounds t a) r.tmps = (ps.zip xs.toList).foldl (fun tmps (t, a) => tmps.setIfInBounds t a) r.tmps := by
        rw [← Array.foldl_toList, hr4]
        simp
      rw [hfold]
      refine (hrun N none (some l) assign _ hs [] _ G ρ H w _ _ hG (fun f e => by cases e) hst hh (setPs_ok ps args xs.toList env r.tmps hlen hargs ⟨hr7, hr8⟩) DsOk.nil hk ?_).wp
      intro fin env1 hs1 ds1 hk ρ1 H1 w1 a1 e1 s1 s2 s3 s4 s5 s6
      cases fin with
      | norm =>
        cases ds1 with
        | cons d q => exact hk.elim
        | nil =>
          cases s6
          have hρ1 := s2.rpf hρ
          simp only at hk
          split at hk
          · rename_i pend1 N1 ps1 as1 bd1 en1 hg1
            obtain ⟨r1, q1, q2, q3, q4, q5, q6, q7, q8, q9, q10⟩ := s1.putLoop (s3.1.2 _ _ hg1) hρ1
            obtain ⟨t1, t2⟩ := q9 .busy pend1
            have hpb : (Instr.beginRound l).run P w1 = .ok () (w1.putObj l (.loop { r1 with state := .busy, pending := pend1 })) := by
              rw [run_beginRound q1 q2]
              rw [← q3]
            refine ⟨_, hpb, ?_⟩
            have hk1 := s1.kp t2
            have z := s3.1.put2 hg1 (.lp .busy pend1 N1 ps1 as1 bd1 en1)
            refine (hrun N none (some l) body env1 _ [] _ G ρ1 _ _ a1 _ hG (fun f e => by cases e) t1 z.1 (s4.keep t2.rp hk1) (s5.keep t2.rp hk1) hk ?_).wp
            intro fin env2 hs2 ds2 hk ρ2 H2 w2 a2 e2 u1 u2 u3 u4 u5 u6
            have hρ2 := u2.rpf hρ1
            split at hk
            · rename_i st2 pend2 N2 ps2 as2 bd2 en2 hg2
              obtain ⟨r2, p1, p2, p3, p4, p5, p6, p7, p8, p9, p10⟩ := u1.putLoop (u3.1.2 _ _ hg2) hρ2
              have fin1 : ∀ (jump : Option Code), κ (.d (.v (.bool jump.isNone))) (hs2.put id (.lp (if jump.isNone then .ready else .done) jump N2 ps2 as2 bd2 en2)) → ∃ x w', (Instr.endRound l jump).run P w2 = .ok x w' ∧ R (.returned x) w' := by
                intro jump hj
                obtain ⟨x1, x2⟩ := p9 (if jump.isNone then .ready else .done) jump
                exact ⟨_, _, run_endRound jump p1, hR _ _ hj ρ2 _ _ _ x1 (((s2.trans t2).trans u2).trans x2) (((s3.trans z).trans u3).trans (u3.1.put2 hg2 _)) (.d _ _ (.v _ rfl))⟩
              cases fin with
              | norm => cases u6; exact fin1 none hk
              | ret => cases u6; exact fin1 (some .ret) hk
              | exit e => cases u6; exact fin1 (some (.exit e)) hk
              | pan v => exact hk.elim
            · exact hk.elim
          · exact hk.elim
      | ret => exact hk.elim
      | exit e => exact hk.elim
      | pan v => exact hk.elim
    · exact hk.elim
  · exact hk.elim

theorem hook_ok {ct : CT} {g : CF} (h : CtOk P ct) (k : CallOk P g) : CallOk P (hook ct g) := by
  intro f args hs κ π G ρ H w xs hG hst hh hargs hk
  unfold hook at hk
  split at hk
  · rename_i c hc
    exact h f c hc f args hs κ π G ρ H w xs hG hst hh hargs ⟨rfl, hk⟩
  · exact k f args hs κ π G ρ H w xs hG hst hh hargs hk

theorem rangeK_ok (hN : NameOk P) {cf : CF} (hcf : CallOk P cf) {N : Nat} {g : Operand} {ps : Array Tmp} {assign body : Code} {env : Tr AV} {hs : HS} {ds : List Df} {κ : KE} {G : Ctx} {ρ : List Value} {H : Heap} {w : World} {a : Act} {Q : Exit → Act → World → Prop}
    (hG : G.P = P) (hst : Sat G ρ H w) (hh : HtOk hs H) (he : EnvOk ρ (Fz G ρ H w) w env a N) (hd : DsOk ρ (Fz G ρ H w) w ds a.defers) (hk0 : rangeK P cf N g ps assign body env hs ds κ) (hq : Done G ρ hs H w N Q κ) : (Code.rangeFunc g ps assign body).wpIn (Fw none) 0 P Q a w := by
  unfold rangeK at hk0
  split at hk0
  · rename_i f first caps hgv
    split at hk0
    · rename_i hbod
      obtain ⟨fnn, cc, hf, hb⟩ : ∃ fn c, P.funcs[f]? = some fn ∧ fn.body = some c := by
        unfold hasBody at hbod
        split at hbod
        · rename_i fn hf
          split at hbod
          · rename_i c hb; exact ⟨fn, c, hf, hb⟩
          · cases hbod
        · cases hbod
      obtain ⟨us, vs, hgx, hus, hvs⟩ := fn_inv (he.ev g _ hgv)
      refine wpIn_rangeFunc fun fn _ => ?_
      obtain ⟨s1, s2⟩ := hst.alloc_own (.deferred (some [])) .dfr (.pointer (some ⟨w.heap.size, 0, none⟩)) rfl rfl (fun hs s => ⟨w.heap.size, rfl, heap_alloc_new w _⟩)
      have hk1 := hst.kp s2
      have he1 := he.keep s2.rp hk1
      obtain ⟨t1, t2⟩ := s1.alloc_own (.loop { state := .ready, pending := none, fn := fn, tmps := a.tmps, params := ps, assign := assign, body := body, defers := w.heap.size }) (.lp .ready none N ps.toList assign body env) (.func (.yield (w.heap.size + 1)) #[] #[]) (by simp [blk]) rfl (fun hs s => by
        refine ⟨w.heap.size + 1, rfl, fn, a.tmps, w.heap.size, ?_, he1.1, fun t v ht => ⟨(he1.2 t v ht).1, (he1.2 t v ht).2.keep s.rp (hs.kp s)⟩⟩
        have := heap_alloc_new (w.alloc (.deferred (some []))) (.loop { state := .ready, pending := none, fn := fn, tmps := a.tmps, params := ps, assign := assign, body := body, defers := w.heap.size })
        simpa using this)
      have hk2 := s1.kp t2
      have hh2 := (hh.push .dfr).push (.lp .ready none N ps.toList assign body env)
      have hlen : ρ.length = hs.n := by rw [hst.len, hh.1]
      have hidl : (ρ ++ [Value.pointer (some ⟨w.heap.size, 0, none⟩)] ++ [Value.func (.yield (w.heap.size + 1)) #[] #[]])[Nat.succ hs.n]? = some (.func (.yield (w.heap.size + 1)) #[] #[]) := by
        rw [List.getElem?_append_right (by simp; omega)]
        simp [hlen]
      have hidd : (ρ ++ [Value.pointer (some ⟨w.heap.size, 0, none⟩)] ++ [Value.func (.yield (w.heap.size + 1)) #[] #[]])[hs.n]? = some (.pointer (some ⟨w.heap.size, 0, none⟩)) := by
        rw [List.getElem?_append_left (by simp; omega), List.getElem?_append_right (by omega)]
        simp [hlen]
      have hargs : AllR (VR (ρ ++ [Value.pointer (some ⟨w.heap.size, 0, none⟩)] ++ [Value.func (.yield (w.heap.size + 1)) #[] #[]]) (Fz G (ρ ++ [Value.pointer (some ⟨w.heap.size, 0, none⟩)] ++ [Value.func (.yield (w.heap.size + 1)) #[] #[]]) (H ++ [AObj.dfr] ++ [AObj.lp .ready none N ps.toList assign body env]) ((w.alloc (.deferred (some []))).alloc (.loop { state := .ready, pending := none, fn := fn, tmps := a.tmps, params := ps, assign := assign, body := body, defers := w.heap.size }))) ((w.alloc (.deferred (some []))).alloc (.loop { state := .ready, pending := none, fn := fn, tmps := a.tmps, params := ps, assign := assign, body := body, defers := w.heap.size }))) (first ++ [.yl (Nat.succ hs.n)] ++ caps) (us ++ #[Value.func (.yield (w.heap.size + 1)) #[] #[]] ++ vs).toList := by
        simp only [Array.toList_append]
        exact ((hus.imp fun _ _ h => (h.keep s2.rp hk1).keep t2.rp hk2).append (.cons (.yl _ _ hidl) .nil)).append (hvs.imp fun _ _ h => (h.keep s2.rp hk1).keep t2.rp hk2)
      have hent := run_callFunc hN hf hb (us ++ #[Value.func (.yield (w.heap.size + 1)) #[] #[]] ++ vs)
      refine ⟨w.heap.size + 1, [{ target := .collected w.heap.size, args := #[] }], ((w.alloc (.deferred (some []))).alloc (.loop { state := .ready, pending := none, fn := fn, tmps := a.tmps, params := ps, assign := assign, body := body, defers := w.heap.size })), { target := .fn (.func f) vs, args := us ++ #[.func (.yield (w.heap.size + 1)) #[] #[]] }, ((w.alloc (.deferred (some []))).alloc (.loop { state := .ready, pending := none, fn := fn, tmps := a.tmps, params := ps, assign := assign, body := body, defers := w.heap.size })), f, us ++ #[Value.func (.yield (w.heap.size + 1)) #[] #[]] ++ vs, ((w.alloc (.deferred (some []))).alloc (.loop { state := .ready, pending := none, fn := fn, tmps := a.tmps, params := ps, assign := assign, body := body, defers := w.heap.size })),
        run_enterLoop_outer fn a.tmps ps assign body, ?_, fun f' _ => trivial, hent _, Fw_dep, ?_⟩
      · have := resolve_value (P := P) (a := a) (c := rangeCall g (w.heap.size + 1)) (ty := 0) rfl hgx ((w.alloc (.deferred (some []))).alloc (.loop { state := .ready, pending := none, fn := fn, tmps := a.tmps, params := ps, assign := assign, body := body, defers := w.heap.size }))
        simpa [rangeCall, Act.eval] using this
      · refine callsIn_Fw ?_
        have z := (hh.push2 .dfr).trans ((hh.push .dfr).push2 (.lp .ready none N ps.toList assign body env))
        rcases hcf f _ _ _ _ G _ _ _ _ hG t1 hh2 hargs hk0 (rangePost (Fw none) 0 P (w.heap.size + 1) Q { a with defers := [{ target := .collected w.heap.size, args := #[] }] ++ a.defers })
          (fun v hs3 hk ρ3 H3 w3 x u1 u2 u3 u4 => by
            have hρ3 := u2.rpf hidl
            split at hk
            · rename_i st pend N3 ps3 as3 bd3 en3 hg3
              obtain ⟨r, q1, q2, q3, q4, q5, q6, q7, q8, q9, q10⟩ := u1.putLoop (u3.1.2 _ _ hg3) hρ3
              obtain ⟨z1, z2⟩ := q10 .exhausted pend
              have hstep := ((s2.trans t2).trans u2).trans z2
              have hkk := hst.kp hstep
              have hdr : ρ3[hs.n]? = some (.pointer (some ⟨w.heap.size, 0, none⟩)) := by
                obtain ⟨h', g1, e⟩ := u2.rp _ _ hidd
                rcases e with rfl | ⟨_, _, _, _, _, _, e, _⟩ | e
                · exact g1
                · cases e
                · cases e
              have hds : DsOk ρ3 (Fz G ρ3 _ _) (w3.putObj (w.heap.size + 1) (.loop { r with state := .exhausted, pending := pend })) (.mark hs.n :: ds) ([{ target := .collected w.heap.size, args := #[] }] ++ a.defers) :=
                (hd.keep hstep.rp hkk).cons ⟨_, hdr, rfl⟩
              have henv : EnvOk ρ3 (Fz G ρ3 _ _) (w3.putObj (w.heap.size + 1) (.loop { r with state := .exhausted, pending := pend })) env { a with defers := [{ target := .collected w.heap.size, args := #[] }] ++ a.defers } N := he.keep hstep.rp hkk
              have hend : r.state ≠ .busy → (Instr.endLoop (w.heap.size + 1)).run P w3 = .ok pend (w3.putObj (w.heap.size + 1) (.loop { r with state := .exhausted, pending := pend })) := fun hb => by
                rw [run_endLoop q1 hb, q3, ← q3]
              have fin1 : ∀ (fin : Fin) (e : Exit), κ fin env (hs3.put (Nat.succ hs.n) .dead) (.mark hs.n :: ds) → (∀ S ww, FinR ρ3 S ww fin e) → Q e { a with defers := [{ target := .collected w.heap.size, args := #[] }] ++ a.defers } (w3.putObj (w.heap.size + 1) (.loop { r with state := .exhausted, pending := pend })) := by
                intro fin e hD hf
                exact hq _ _ _ _ hD ρ3 _ _ _ e z1 hstep ((z.trans u3).trans (u3.1.put2 hg3 _)) henv hds (hf _ _)
              split at hk
              · exact hk.elim
              · rename_i hnb
                have hnb' : r.state ≠ .busy := by rw [q2]; exact hnb
                split at hk
                · refine ⟨none, _, hend hnb', ?_⟩
                  exact fin1 .norm .normal hk fun _ _ => rfl
                · refine ⟨some .ret, _, hend hnb', ?_⟩
                  exact wpIn_ret (fin1 .ret .ret hk fun _ _ => rfl)
                · rename_i e
                  refine ⟨some (.exit e), _, hend hnb', ?_⟩
                  exact wpIn_exit (fin1 (.exit e) (.exit e) hk fun _ _ => rfl)
                · exact hk.elim
            · exact hk.elim) (fun _ _ hk => hk.elim) with h | ⟨x, h, _⟩
        · exact h.2
        · rw [hent] at h
          cases h
    · exact hk0.elim
  · exact hk0.elim

theorem seqK_done {run : RunF} (hrun : RunOk P run) {N : Nat} {fo : Option FuncId} {ro : Option Nat} {b : Code} {κ : KE} {G : Ctx} {ρ : List Value} {hs : HS} {H : Heap} {w : World} {Q : Exit → Act → World → Prop} (hG : G.P = P) (hF : InF P N fo b) (hq : Done G ρ hs H w N Q κ) {Q' : Act → World → Prop} (hQ : ∀ a w, wpL P ro b Q a w → Q' a w) :
    Done G ρ hs H w N (Exit.then Q' Q) (seqK run N fo ro.isSome b κ) := by
  intro fin env hs' ds hk ρ' H' w' a' e s1 s2 s3 s4 s5 s6
  cases fin with
  | norm => cases s6; exact hQ _ _ (hrun N fo ro b env hs' ds κ G ρ' H' w' a' Q hG hF s1 s3.1 s4 s5 hk (hq.step s2 s3))
  | exit id => cases s6; exact hq _ _ _ _ hk ρ' H' w' a' _ s1 s2 s3 s4 s5 rfl
  | ret => cases s6; exact hq _ _ _ _ hk ρ' H' w' a' _ s1 s2 s3 s4 s5 rfl
  | pan v => obtain ⟨x, rfl, hx⟩ := s6; exact hq _ _ _ _ hk ρ' H' w' a' _ s1 s2 s3 s4 s5 ⟨x, rfl, hx⟩

theorem InF.sub {N : Nat} {fo : Option FuncId} {c c' : Code} (h : InF P N fo c) (k : ∀ b, b ∈ loopsOf c' → b ∈ loopsOf c) : InF P N fo c' := fun f e => by
  obtain ⟨fn, body, h1, h2, h3, h4⟩ := h f e
  exact ⟨fn, body, h1, h2, h3, fun b hb => h4 b (k b hb)⟩

theorem stepC_ok (hT : TbOk P T) (hN : NameOk P) (hm : P.follows .mixedOrders = true) {ct : CT} (hct : CtOk P ct) {lt : LT} (hlt : LtOk P lt) {run : RunF} (hrun : RunOk P run) : RunOk P (stepC P T ct lt run) := by
  intro N fo ro c env hs ds κ G ρ H w a Q hG hF hst hh he hd hk hq
  have hfin : ∀ (fin : Fin) (e : Exit), κ fin env hs ds → FinR ρ (Fz G ρ H w) w fin e → Q e a w := fun fin e hk hf => hq _ _ _ _ hk ρ H w a e hst (Step.refl ρ H w) hh.same2 he hd hf
  cases c with
  | skip => exact wpIn_skip (hfin .norm .normal hk rfl)
  | label l => exact wpIn_label (hfin .norm .normal hk rfl)
  | region id ops draw =>
    cases draw with
    | false => exact wpIn_region_list (opsK_ok hT (hook_ok hct (fK_ok hT hN hrun)) (roundK_ok hrun) rfl _ env hs ds κ G ρ H w a Q hG hst hh he hd hk hq)
    | true => exact drK_ok hT hm (hook_ok hct (fK_ok hT hN hrun)) hG hst hh he hd hk hq
  | seq x y => exact wpIn_seq (hrun N fo ro x env hs ds _ G ρ H w a _ hG (hF.sub fun b hb => by simp [loopsOf, hb]) hst hh he hd hk (seqK_done hrun hG (hF.sub fun b hb => by simp [loopsOf, hb]) hq fun _ _ h => h.wp)).wp
  | cond c x y =>
    have hk : (match evO env c with
      | some (.d (.v (.bool t))) => boolP t (run N fo ro.isSome x env hs ds κ) (run N fo ro.isSome y env hs ds κ)
      | _ => False) := hk
    split at hk
    · rename_i t hc
      have hv := he.ev c _ hc
      have hb : a.eval c = .bool t := by
        generalize a.eval c = z at hv
        cases hv with
        | d _ _ hd => cases hd; rfl
      cases t with
      | true => exact wpIn_cond_true hb (hrun N fo ro x env hs ds κ G ρ H w a Q hG (hF.sub fun b hb => by simp [loopsOf, hb]) hst hh he hd hk hq).wp
      | false => exact wpIn_cond_false hb (hrun N fo ro y env hs ds κ G ρ H w a Q hG (hF.sub fun b hb => by simp [loopsOf, hb]) hst hh he hd hk hq).wp
    · exact hk.elim
  | block id c =>
    refine wpIn_block (hrun N fo ro c env hs ds _ G ρ H w a _ hG (hF.sub fun b hb => by simpa [loopsOf] using hb) hst hh he hd hk ?_).wp
    intro fin env' hs' ds' hk ρ' H' w' a' e s1 s2 s3 s4 s5 s6
    cases fin with
    | norm => cases s6; exact hq _ _ _ _ hk ρ' H' w' a' _ s1 s2 s3 s4 s5 rfl
    | ret => cases s6; exact hq _ _ _ _ hk ρ' H' w' a' _ s1 s2 s3 s4 s5 rfl
    | pan v => obtain ⟨x, rfl, hx⟩ := s6; exact hq _ _ _ _ hk ρ' H' w' a' _ s1 s2 s3 s4 s5 ⟨x, rfl, hx⟩
    | exit id' =>
      cases s6
      simp only [Exit.inBlock]
      unfold blockK at hk
      simp only at hk
      cases hi : Nat.beq id' id with
      | true =>
        rw [hi] at hk
        rw [if_pos (Nat.eq_of_beq_eq_true hi)]
        exact hq _ _ _ _ hk ρ' H' w' a' _ s1 s2 s3 s4 s5 rfl
      | false =>
        rw [hi] at hk
        rw [if_neg (fun e => by subst e; rw [Nat.beq_refl] at hi; cases hi)]
        exact hq _ _ _ _ hk ρ' H' w' a' _ s1 s2 s3 s4 s5 rfl
  | loop c =>
    have hk2 : (match (match ro.isSome with | true => none | false => match fo with | some f => lt f (loopId c) | none => none) with
      | some g => g env hs ds κ
      | none => run N fo ro.isSome c env hs ds (seqK run N fo ro.isSome (.loop c) κ)) := hk
    clear hk
    split at hk2
    · rename_i g hg
      split at hg
      · cases hg
      · rename_i hro
        split at hg
        · rename_i f
          cases ro with
          | some l => cases hro
          | none =>
            obtain ⟨fn, body, h1, h2, h3, h4⟩ := hF f rfl
            have := hlt f fn body c g h1 h2 (h4 c (by simp [loopsOf])) hg
            rw [h3] at this
            exact this env hs ds κ G ρ H w a Q hG hst hh he hd hk2 hq
        · cases hg
    · exact loopWp.round (hrun N fo ro c env hs ds _ G ρ H w a _ hG (hF.sub fun b hb => by simp [loopsOf, hb]) hst hh he hd hk2 (seqK_done hrun hG hF hq fun _ _ h => h)).wp
  | rangeFunc g ps assign body =>
    cases ro with
    | some l => exact hk.elim
    | none => exact rangeK_ok hN (hook_ok hct (fK_ok hT hN hrun)) hG hst hh he hd hk hq
  | scope c =>
    refine wpIn_scope_straight (hrun N fo ro c env hs ds κ G ρ H w a _ hG (hF.sub fun b hb => by simpa [loopsOf] using hb) hst hh he hd hk ?_).wp
    intro fin env' hs' ds' hk ρ' H' w' a' e s1 s2 s3 s4 s5 s6
    cases fin with
    | norm => cases s6; exact hq _ _ _ _ hk ρ' H' w' a' _ s1 s2 s3 s4 s5 rfl
    | ret => cases s6; exact hq _ _ _ _ hk ρ' H' w' a' _ s1 s2 s3 s4 s5 rfl
    | exit id => cases s6; exact hq _ _ _ _ hk ρ' H' w' a' _ s1 s2 s3 s4 s5 rfl
    | pan v => obtain ⟨x, rfl, hx⟩ := s6; exact hq _ _ _ _ hk ρ' H' w' a' _ s1 s2 s3 s4 s5 ⟨x, rfl, hx⟩
  | exit id => exact wpIn_exit (hfin (.exit id) (.exit id) hk rfl)
  | goto l => exact hk.elim
  | ret => exact wpIn_ret (hfin .ret .ret hk rfl)
  | refuse s => exact hk.elim

theorem runK_ok (hT : TbOk P T) (hN : NameOk P) (hm : P.follows .mixedOrders = true) {ct : CT} (hct : CtOk P ct) {lt : LT} (hlt : LtOk P lt) (k : Nat) : RunOk P (runK P T ct lt k) := by
  induction k with
  | zero => intro N fo ro c env hs ds κ G ρ H w a Q hG hF hst hh he hd hk hq; exact hk.elim
  | succ k ih => exact stepC_ok hT hN hm hct hlt ih

end Go.Rc
