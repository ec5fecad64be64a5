/- TrigHalves, plain: from the half of a turn on, by halves: closed. -/
import Derived.Test.YtiipaicbbmkagaaIy
namespace Bu
set_option linter.all false
open Rx Go

def T2 : I := ⟨two64, two64⟩
def rT (r : I × Int) (c : I) : Bool := decide (r.1.lo.k = c.lo.k) && decide (r.1.hi.k = c.hi.k) && decide (r.2 = 0)
def nI (l h : Nat) : I := ⟨toF l, toF h⟩
def stB (x l h x2 l2 h2 ls hs : Nat) : Bool :=
  decide (fdv (toF x) two64 = some (toF x2).b) && inB (toF x2) (toF x2) && rT (hvC KhR T2 (nI l h) 0) (nI l2 h2) && rT (hvS KhR T2 (nI l h) 0) (nI ls hs) && meB (cosM atR (toF x2) (toF x2)) (nI l2 h2) && meB (sinM atR (toF x2) (toF x2)) (nI ls hs)
theorem rT_eq {r : I × Int} {c : I} (h : rT r c = true) : r = (c, 0) := by
  unfold rT at h
  simp only [Bool.and_eq_true, decide_eq_true_iff] at h
  obtain ⟨⟨a, b⟩, e⟩ := h
  obtain ⟨⟨rl, rh⟩, re⟩ := r
  have h1 : rl = c.lo := F.ext' a
  have h2 : rh = c.hi := F.ext' b
  have h3 : re = 0 := e
  subst h1; subst h2; subst h3; rfl
theorem go_step {n x l h x2 l2 h2 ls hs : Nat} (hb : stB x l h x2 l2 h2 ls hs = true) (k : ∀ ob, obsB ob = true → obsB (hGo KhR T2 n (toF x2) (nI l2 h2) 0 ob) = true) : ∀ ob, obsB ob = true → obsB (hGo KhR T2 (n + 1) (toF x) (nI l h) 0 ob) = true := by
  intro ob ho
  unfold stB at hb
  simp only [Bool.and_eq_true, decide_eq_true_iff] at hb
  obtain ⟨⟨⟨⟨⟨d1, d2⟩, d3⟩, d4⟩, d5⟩, d6⟩ := hb
  obtain ⟨o1, o2⟩ := so_ok d1
  have e3 := rT_eq d3
  have e4 := rT_eq d4
  have eX : hvX (toF x) = toF x2 := o2
  show obsB (hGo KhR T2 n (hvX (toF x)) (hvC KhR T2 (nI l h) 0).1 (hvS KhR T2 (nI l h) 0).2 (apd (hRd KhR T2 (nI l h) 0 (toF x)) ob)) = true
  have hr : obsB (hRd KhR T2 (nI l h) 0 (toF x)) = true := by
    unfold hRd
    rw [eX, e3, e4]
    exact ob2 (obsB_yes rfl (obsB_yes d6 (obsB_yes d5 (obsB_yes d2 obsB_nil)))) o1
  rw [eX, e3, e4]
  exact k _ (obApd hr ho)
set_option maxRecDepth 100000 in
theorem half0 : stB 4602678819172646912 13830554455654793216 13830554455654793216 4598175219545276416 0 0 4607182418800017408 4607182418800017408 = true := by decide +kernel
set_option maxRecDepth 100000 in
theorem half1 : stB 4598175219545276416 0 0 4593671619917905920 4604544271217802188 4604544271217802189 4604544271217802188 4604544271217802189 = true := by decide +kernel
set_option maxRecDepth 100000 in
theorem half2 : stB 4593671619917905920 4604544271217802188 4604544271217802189 4589168020290535424 4606496786581982534 4606496786581982535 4600565431771507042 4600565431771507044 = true := by decide +kernel
set_option maxRecDepth 100000 in
theorem half3 : stB 4589168020290535424 4606496786581982534 4606496786581982535 4584664420663164928 4607009347991985328 4607009347991985329 4596196889902818822 4596196889902818828 = true := by decide +kernel
set_option maxRecDepth 100000 in
theorem half4 : stB 4584664420663164928 4607009347991985328 4607009347991985329 4580160821035794432 4607139046673687845 4607139046673687847 4591727299969791002 4591727299969791024 = true := by decide +kernel
set_option maxRecDepth 100000 in
theorem half5 : stB 4580160821035794432 4607139046673687845 4607139046673687847 4575657221408423936 4607171569234046333 4607171569234046335 4587232218149935011 4587232218149935175 = true := by decide +kernel
set_option maxRecDepth 100000 in
theorem half6 : stB 4575657221408423936 4607171569234046333 4607171569234046335 4571153621781053440 4607179706000002316 4607179706000002318 4582730748936807699 4582730748936808352 = true := by decide +kernel
set_option maxRecDepth 100000 in
theorem half7 : stB 4571153621781053440 4607179706000002316 4607179706000002318 4566650022153682944 4607181740574479067 4607181740574479068 4578227681973158157 4578227681973160766 = true := by decide +kernel
set_option maxRecDepth 100000 in
theorem half8 : stB 4566650022153682944 4607181740574479067 4607181740574479068 4562146422526312448 4607182249242036881 4607182249242036883 4573724215515476743 4573724215515481959 = true := by decide +kernel
set_option maxRecDepth 100000 in
theorem half9 : stB 4562146422526312448 4607182249242036881 4607182249242036883 4557642822898941952 4607182376410422529 4607182376410422531 4569220649180752864 4569220649180794587 = true := by decide +kernel
set_option maxRecDepth 100000 in
theorem half10 : stB 4557642822898941952 4607182376410422529 4607182376410422531 4553139223271571456 4607182408202612453 4607182408202612455 4564717057876477820 4564717057876644707 = true := by decide +kernel
set_option maxRecDepth 100000 in
theorem half11 : stB 4553139223271571456 4607182408202612453 4607182408202612455 4548635623644200960 4607182416150665779 4607182416150665781 4560213460329759707 4560213460330427252 = true := by decide +kernel
set_option maxRecDepth 100000 in
theorem half12 : stB 4548635623644200960 4607182416150665779 4607182416150665781 4544132024016830464 4607182418137679476 4607182418137679478 4555709861221404870 4555709861224075048 = true := by decide +kernel
set_option maxRecDepth 100000 in
theorem half13 : stB 4544132024016830464 4607182418137679476 4607182418137679478 4539628424389459968 4607182418634432923 4607182418634432924 4551206261718197600 4551206261728878308 = true := by decide +kernel
set_option maxRecDepth 100000 in
theorem half14 : stB 4539628424389459968 4607182418634432923 4607182418634432924 4535124824762089472 4607182418758621286 4607182418758621287 4546702662122869226 4546702662144230642 = true := by decide +kernel
set_option maxRecDepth 100000 in
theorem half15 : stB 4535124824762089472 4607182418758621286 4607182418758621287 4530621225134718976 4607182418789668377 4607182418789668378 4542199062495498730 4542199062580944390 = true := by decide +kernel
set_option maxRecDepth 100000 in
theorem half16 : stB 4530621225134718976 4607182418789668377 4607182418789668378 4526117625507348480 4607182418797430149 4607182418797430151 4537695462782682574 4537695463124465209 = true := by decide +kernel
set_option maxRecDepth 100000 in
theorem half17 : stB 4526117625507348480 4607182418797430149 4607182418797430151 4521614025879977984 4607182418799370592 4607182418799370594 4533191862471746759 4533191865206007638 = true := by decide +kernel
set_option maxRecDepth 100000 in
theorem half18 : stB 4521614025879977984 4607182418799370592 4607182418799370594 4517110426252607488 4607182418799855703 4607182418799855705 4528688261477245428 4528688272414284715 = true := by decide +kernel
set_option maxRecDepth 100000 in
theorem half19 : stB 4517110426252607488 4607182418799855703 4607182418799855705 4512606826625236992 4607182418799976981 4607182418799976983 4524184650912818737 4524184694660942064 = true := by decide +kernel
theorem halves : ∀ ob, obsB ob = true → obsB (hGo KhR T2 20 (toF 4602678819172646912) (nI 13830554455654793216 13830554455654793216) 0 ob) = true := go_step half0 (go_step half1 (go_step half2 (go_step half3 (go_step half4 (go_step half5 (go_step half6 (go_step half7 (go_step half8 (go_step half9 (go_step half10 (go_step half11 (go_step half12 (go_step half13 (go_step half14 (go_step half15 (go_step half16 (go_step half17 (go_step half18 (go_step half19 (fun _ ho => ho))))))))))))))))))))
theorem hvO_ok {a b : F} (h : inB a b = true) (h2 : b.q ≤ 1 / 2) : obsB (hvO KhR a b) = true := by
  obtain ⟨a0, ab, b1⟩ := inB_q h
  obtain ⟨_, _, _, _, _, g2, _, _⟩ := consts
  have hk : ∀ {x : F}, 0 ≤ x.q → 0 ≤ x.k := by
    intro x hx
    have := q_le.1 (show F.zero.q ≤ x.q by rw [q_zero]; exact hx)
    exact this
  obtain ⟨A, s1, s2⟩ := twice_ok (x := a) (hk a0) (by grind)
  obtain ⟨B, t1, t2⟩ := twice_ok (x := b) (hk (by grind)) h2
  obtain ⟨o1, o2⟩ := so_ok s1
  obtain ⟨p1, p2⟩ := so_ok t1
  have eA : tw2 a = A := o2
  have eB : tw2 b = B := p2
  have hv : inB A B = true := by
    have k0 : (toF 0).k ≤ A.k := q_le.1 (by have := zero0_q; grind)
    have k1 : B.k ≤ one64.k := q_le.1 (by rw [one_q]; grind)
    have k2 : A.k ≤ B.k := q_le.1 (by grind)
    unfold inB rt
    simp only [Bool.and_eq_true, decide_eq_true_iff]
    exact ⟨⟨k2, k0⟩, k1⟩
  obtain ⟨r1, r2⟩ := hB_ok h h2 (v := ⟨A, B⟩) hv s2
  unfold hvO
  rw [r2, hT_ok, eA, eB]
  refine halves _ (obApd r1 (obApd p1 (obApd o1 (obsB_yes h (obsB_yes (decide_eq_false ?_) (obsB_yes h obsB_nil))))))
  have := q_le.1 (show b.q ≤ q2.q by grind)
  omega
end Bu
