import Derived.Test.YtdjbpmgbaggfbaaDoorKniD0
import Derived.Test.YtdjbpmgbaggfbaaDoorKniD1
import Derived.Test.YtdjbpmgbaggfbaaDoorKniD2
namespace Go.Proofs.Tryd.Dn
open Go.Dn

def tab : Tab := (.two 73 (.two 51 (.two 28 (.two 20 (.two 18 (.one 13 d13) (.two 19 (.one 18 d18) (.one 19 d19))) (.two 25 (.one 20 d20) (.two 26 (.one 25 d25) (.one 26 d26)))) (.two 38 (.two 29 (.one 28 d28) (.two 35 (.one 29 d29) (.one 35 d35))) (.two 44 (.one 38 d38) (.two 45 (.one 44 d44) (.one 45 d45))))) (.two 64 (.two 60 (.two 58 (.one 51 d51) (.two 59 (.one 58 d58) (.one 59 d59))) (.two 61 (.one 60 d60) (.two 63 (.one 61 d61) (.one 63 d63)))) (.two 69 (.two 65 (.one 64 d64) (.two 68 (.one 65 d65) (.one 68 d68))) (.two 70 (.one 69 d69) (.two 71 (.one 70 d70) (.one 71 d71)))))) (.two 90 (.two 81 (.two 76 (.two 74 (.one 73 d73) (.two 75 (.one 74 d74) (.one 75 d75))) (.two 77 (.one 76 d76) (.two 80 (.one 77 d77) (.one 80 d80)))) (.two 87 (.two 84 (.one 81 d81) (.two 86 (.one 84 d84) (.one 86 d86))) (.two 88 (.one 87 d87) (.two 89 (.one 88 d88) (.one 89 d89))))) (.two 98 (.two 93 (.two 91 (.one 90 d90) (.two 92 (.one 91 d91) (.one 92 d92))) (.two 95 (.one 93 d93) (.two 96 (.one 95 d95) (.one 96 d96)))) (.two 101 (.two 99 (.one 98 d98) (.two 100 (.one 99 d99) (.one 100 d100))) (.two 102 (.one 101 d101) (.two 103 (.one 102 d102) (.one 103 d103)))))))

theorem tab_ok : tab.Ok Tryd.prog := ⟨⟨⟨⟨⟨ok13, ⟨ok18, ok19⟩⟩, ⟨ok20, ⟨ok25, ok26⟩⟩⟩, ⟨⟨ok28, ⟨ok29, ok35⟩⟩, ⟨ok38, ⟨ok44, ok45⟩⟩⟩⟩, ⟨⟨⟨ok51, ⟨ok58, ok59⟩⟩, ⟨ok60, ⟨ok61, ok63⟩⟩⟩, ⟨⟨ok64, ⟨ok65, ok68⟩⟩, ⟨ok69, ⟨ok70, ok71⟩⟩⟩⟩⟩, ⟨⟨⟨⟨ok73, ⟨ok74, ok75⟩⟩, ⟨ok76, ⟨ok77, ok80⟩⟩⟩, ⟨⟨ok81, ⟨ok84, ok86⟩⟩, ⟨ok87, ⟨ok88, ok89⟩⟩⟩⟩, ⟨⟨⟨ok90, ⟨ok91, ok92⟩⟩, ⟨ok93, ⟨ok95, ok96⟩⟩⟩, ⟨⟨ok98, ⟨ok99, ok100⟩⟩, ⟨ok101, ⟨ok102, ok103⟩⟩⟩⟩⟩⟩

end Go.Proofs.Tryd.Dn

