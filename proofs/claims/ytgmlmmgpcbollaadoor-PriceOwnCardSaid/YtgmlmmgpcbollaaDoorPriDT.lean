import Derived.Test.YtgmlmmgpcbollaaDoorPriD0
import Derived.Test.YtgmlmmgpcbollaaDoorPriD1
import Derived.Test.YtgmlmmgpcbollaaDoorPriD2
namespace Go.Proofs.Tryd.Dn
open Go.Dn

def tab : Tab := (.two 61 (.two 35 (.two 24 (.two 19 (.two 17 (.one 7 d7) (.two 18 (.one 17 d17) (.one 18 d18))) (.two 22 (.two 20 (.one 19 d19) (.one 20 d20)) (.two 23 (.one 22 d22) (.one 23 d23)))) (.two 27 (.two 25 (.one 24 d24) (.two 26 (.one 25 d25) (.one 26 d26))) (.two 31 (.two 29 (.one 27 d27) (.one 29 d29)) (.two 34 (.one 31 d31) (.one 34 d34))))) (.two 54 (.two 39 (.two 36 (.one 35 d35) (.two 37 (.one 36 d36) (.one 37 d37))) (.two 52 (.two 46 (.one 39 d39) (.one 46 d46)) (.two 53 (.one 52 d52) (.one 53 d53)))) (.two 57 (.two 55 (.one 54 d54) (.two 56 (.one 55 d55) (.one 56 d56))) (.two 59 (.two 58 (.one 57 d57) (.one 58 d58)) (.two 60 (.one 59 d59) (.one 60 d60)))))) (.two 80 (.two 71 (.two 67 (.two 62 (.one 61 d61) (.two 66 (.one 62 d62) (.one 66 d66))) (.two 69 (.two 68 (.one 67 d67) (.one 68 d68)) (.two 70 (.one 69 d69) (.one 70 d70)))) (.two 74 (.two 72 (.one 71 d71) (.two 73 (.one 72 d72) (.one 73 d73))) (.two 77 (.two 76 (.one 74 d74) (.one 76 d76)) (.two 79 (.one 77 d77) (.one 79 d79))))) (.two 87 (.two 83 (.two 81 (.one 80 d80) (.two 82 (.one 81 d81) (.one 82 d82))) (.two 85 (.two 84 (.one 83 d83) (.one 84 d84)) (.two 86 (.one 85 d85) (.one 86 d86)))) (.two 92 (.two 90 (.two 88 (.one 87 d87) (.one 88 d88)) (.two 91 (.one 90 d90) (.one 91 d91))) (.two 94 (.two 93 (.one 92 d92) (.one 93 d93)) (.two 95 (.one 94 d94) (.one 95 d95)))))))

theorem tab_ok : tab.Ok Tryd.prog := ⟨⟨⟨⟨⟨ok7, ⟨ok17, ok18⟩⟩, ⟨⟨ok19, ok20⟩, ⟨ok22, ok23⟩⟩⟩, ⟨⟨ok24, ⟨ok25, ok26⟩⟩, ⟨⟨ok27, ok29⟩, ⟨ok31, ok34⟩⟩⟩⟩, ⟨⟨⟨ok35, ⟨ok36, ok37⟩⟩, ⟨⟨ok39, ok46⟩, ⟨ok52, ok53⟩⟩⟩, ⟨⟨ok54, ⟨ok55, ok56⟩⟩, ⟨⟨ok57, ok58⟩, ⟨ok59, ok60⟩⟩⟩⟩⟩, ⟨⟨⟨⟨ok61, ⟨ok62, ok66⟩⟩, ⟨⟨ok67, ok68⟩, ⟨ok69, ok70⟩⟩⟩, ⟨⟨ok71, ⟨ok72, ok73⟩⟩, ⟨⟨ok74, ok76⟩, ⟨ok77, ok79⟩⟩⟩⟩, ⟨⟨⟨ok80, ⟨ok81, ok82⟩⟩, ⟨⟨ok83, ok84⟩, ⟨ok85, ok86⟩⟩⟩, ⟨⟨⟨ok87, ok88⟩, ⟨ok90, ok91⟩⟩, ⟨⟨ok92, ok93⟩, ⟨ok94, ok95⟩⟩⟩⟩⟩⟩

end Go.Proofs.Tryd.Dn

